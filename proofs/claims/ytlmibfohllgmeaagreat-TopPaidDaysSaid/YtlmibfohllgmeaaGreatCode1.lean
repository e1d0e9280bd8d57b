import Derived.Test.YtlmibfohllgmeaaGreatTypes
import Derived.Test.YtlmibfohllgmeaaGreatShelf
import Derived.Test.YtlmibfohllgmeaaGreatShc
set_option maxRecDepth 8000
set_option maxHeartbeats 4000000
namespace Go.Proofs.YtlmibfohllgmeaaGreat
open Go.RowKit
theorem info_3:(Tryz.prog.info? 3).map (fun i=>(i.zero,i.size,i.bytes))=some (some (.int .i64 0),1,8):=by kernel_rfl
theorem plain_LoomOrder:Plain LoomOrder:=fun _ m' _ w' x _ h=>(plain_two plain_int (plain_two plain_int (plain_two plain_int (plain_two plain_int plain_int)))) _ m' _ w' _ _ h
theorem lay_30:layoutOf Tryz.prog 30=some ([.slice none 0 0,.int .i64 0],[(0,1),(1,1)]):=by kernel_rfl
theorem lay_49:layoutOf Tryz.prog 49=some ([.int .i64 0,.int .i64 0,.int .i64 0,.int .i64 0,.int .i64 0],[(0,1),(1,1),(2,1),(3,1),(4,1)]):=by kernel_rfl
theorem mixed:Tryz.prog.follows .mixedOrders=true:=by kernel_rfl
theorem info_49:(Tryz.prog.info? 49).map (fun i=>(i.zero,i.size,i.bytes))=some (some (.agg #[.int .i64 0,.int .i64 0,.int .i64 0,.int .i64 0,.int .i64 0]),5,40):=by kernel_rfl
theorem endm_ct {P:Program} {e:Env} {ds:List Deferred} {w:World} {fn:Func} {R:Value→World→Prop} {t0:Tmp} {v0:Value} {y0:TypeId} {a0:Addr} {t1:Tmp} {v1:Value} (hres:fn.results=#[.cell t0 y0,.tmp t1]) (hd:ds=[]) (h0:e t0=.pointer (some a0)) (l0:(loadVar y0 a0).run P w=.ok v0 w) (h1:e t1=v1) (h:R (.tuple #[v0,v1]) w):atEnd P fn R .ret e ds w:=
 ⟨hd,fun tmps ht=>⟨_,by simp [results,hres,ht,asAddr,h0,l0,h1],h⟩⟩
theorem endm_c {P:Program} {e:Env} {ds:List Deferred} {w:World} {fn:Func} {R:Value→World→Prop} {t0:Tmp} {v0:Value} {y0:TypeId} {a0:Addr} (hres:fn.results=#[.cell t0 y0]) (hd:ds=[]) (h0:e t0=.pointer (some a0)) (l0:(loadVar y0 a0).run P w=.ok v0 w) (h:R v0 w):atEnd P fn R .ret e ds w:=
 ⟨hd,fun tmps ht=>⟨_,by simp [results,hres,ht,asAddr,h0,l0],h⟩⟩
theorem lay_148:layoutOf Tryz.prog 148=some ([.int .i64 0,.int .i64 0],[(0,1),(1,1)]):=by kernel_rfl
theorem lay_59:layoutOf Tryz.prog 59=some ([.slice none 0 0,.slice none 0 0,.int .i64 0,.int .i64 0],[(0,1),(1,1),(2,1),(3,1)]):=by kernel_rfl
theorem info_148:(Tryz.prog.info? 148).map (fun i=>(i.zero,i.size,i.bytes))=some (some (.agg #[.int .i64 0,.int .i64 0]),2,16):=by kernel_rfl
theorem lay_68:layoutOf Tryz.prog 68=some ([.int .i64 0,.int .i64 0,.int .i64 0,.slice none 0 0,.int .i64 0],[(0,1),(1,1),(2,1),(3,1),(4,1)]):=by kernel_rfl
theorem lay_91:layoutOf Tryz.prog 91=some ([.slice none 0 0,.slice none 0 0,.slice none 0 0,.int .i64 0],[(0,1),(1,1),(2,1),(3,1)]):=by kernel_rfl
theorem capf_0_1 {e:Env} {f:FuncId} {o0:Operand} {b0:Value} (hb0:ev e o0=b0):(Value.func (.func f) ((#[]:Array Operand).map (ev e)) ((#[o0]:Array Operand).map (ev e)))=.func (.func f) #[] #[b0]:=by simp [hb0]
theorem lay_134:layoutOf Tryz.prog 134=some ([.slice none 0 0,.int .i64 0,.slice none 0 0],[(0,2),(2,1)]):=by kernel_rfl
theorem key_3:KeyLaw Tryz.prog 3 (Value.int .i64):=keyLaw_int Tryz.underlying3
theorem info_4:(Tryz.prog.info? 4).map (fun i=>(i.zero,i.size,i.bytes))=some (some (.bool false),1,1):=by kernel_rfl
theorem lay_153:layoutOf Tryz.prog 153=some ([.slice none 0 0,.slice none 0 0,.int .i64 0,.int .i64 0],[(0,4)]):=by kernel_rfl
theorem capf_0_2 {e:Env} {f:FuncId} {o0:Operand} {u3:Operand} {b0:Value} {b1:Value} (hb0:ev e o0=b0) (hb1:ev e u3=b1):(Value.func (.func f) ((#[]:Array Operand).map (ev e)) ((#[o0,u3]:Array Operand).map (ev e)))=.func (.func f) #[] #[b0,b1]:=by simp [hb0,hb1]
theorem lay_173:layoutOf Tryz.prog 173=some ([.slice none 0 0,.slice none 0 0,.slice none 0 0,.int .i64 0],[(0,4)]):=by kernel_rfl
theorem lay_232:layoutOf Tryz.prog 232=some ([.int .i64 0,.int .i64 0],[(0,1),(1,1)]):=by kernel_rfl
theorem info_232:(Tryz.prog.info? 232).map (fun i=>(i.zero,i.size,i.bytes))=some (some (.agg #[.int .i64 0,.int .i64 0]),2,16):=by kernel_rfl
theorem capf_0_3 {e:Env} {f:FuncId} {o0:Operand} {u3:Operand} {l5:Operand} {b0:Value} {b1:Value} {b2:Value} (hb0:ev e o0=b0) (hb1:ev e u3=b1) (hb2:ev e l5=b2):(Value.func (.func f) ((#[]:Array Operand).map (ev e)) ((#[o0,u3,l5]:Array Operand).map (ev e)))=.func (.func f) #[] #[b0,b1,b2]:=by simp [hb0,hb1,hb2]
theorem lay_66:layoutOf Tryz.prog 66=some ([.int .i64 0,.int .i64 0,.int .i64 0],[(0,1),(1,1),(2,1)]):=by kernel_rfl
theorem szA_3:(Tryz.prog.info? 3).map (·.size)=some 1:=by kernel_rfl
theorem info_66:(Tryz.prog.info? 66).map (fun i=>(i.zero,i.size,i.bytes))=some (some (.agg #[.int .i64 0,.int .i64 0,.int .i64 0]),3,24):=by kernel_rfl
theorem lay_98:layoutOf Tryz.prog 98=some ([.int .i64 0,.int .i64 0,.int .i64 0,.int .i64 0],[(0,1),(1,1),(2,1),(3,1)]):=by kernel_rfl
theorem layA_64:((Tryz.prog.info? 64).bind (·.zero)).map (·.cells.toList)=some [.int .i64 0,.int .i64 0,.int .i64 0]:=by kernel_rfl
theorem info_68:(Tryz.prog.info? 68).map (fun i=>(i.zero,i.size,i.bytes))=some (some (.agg #[.int .i64 0,.int .i64 0,.int .i64 0,.slice none 0 0,.int .i64 0]),5,56):=by kernel_rfl
theorem fl_66 : Tryz.prog.fieldsOf 66 = #[{ name := "Order", type := 3, offset := 0, embedded := false, tag := "", pkgPath := "", byteOffset := 0 }, { name := "Loom", type := 3, offset := 1, embedded := false, tag := "", pkgPath := "", byteOffset := 8 }, { name := "From", type := 3, offset := 2, embedded := false, tag := "", pkgPath := "", byteOffset := 16 }] := by kernel_rfl
theorem seq_66:SEq (α:=LoomRun) Tryz.prog 66:=by
 intro d x y w a b m wx m2 wy hx hy
 obtain ⟨_,⟨_,_,rfl,rfl,⟨_,_,rfl,rfl,rfl⟩⟩,rfl⟩:=hx
 obtain ⟨_,⟨_,_,rfl,rfl,⟨_,_,rfl,rfl,rfl⟩⟩,rfl⟩:=hy
 refine (run_equalIn_struct w (d + 1) 66 _ _ (by kernel_rfl) (by kernel_rfl)).trans ?_
 rw [fl_66]
 obtain ⟨x0,x1,x2⟩:=x
 obtain ⟨y0,y1,y2⟩:=y
 show (Op.eqFields (d + 1) #[.int .i64 (x0),.int .i64 (x1),.int .i64 (x2)] #[.int .i64 (y0),.int .i64 (y1),.int .i64 (y2)] _).run _ _=_
 have x0p:(part 3 #[.int .i64 (x0),.int .i64 (x1),.int .i64 (x2)] 0).run Tryz.prog w=.ok (.int .i64 (x0)) w:=part_one Tryz.isAgg3 rfl
 have x1p:(part 3 #[.int .i64 (x0),.int .i64 (x1),.int .i64 (x2)] 1).run Tryz.prog w=.ok (.int .i64 (x1)) w:=part_one Tryz.isAgg3 rfl
 have x2p:(part 3 #[.int .i64 (x0),.int .i64 (x1),.int .i64 (x2)] 2).run Tryz.prog w=.ok (.int .i64 (x2)) w:=part_one Tryz.isAgg3 rfl
 have y0p:(part 3 #[.int .i64 (y0),.int .i64 (y1),.int .i64 (y2)] 0).run Tryz.prog w=.ok (.int .i64 (y0)) w:=part_one Tryz.isAgg3 rfl
 have y1p:(part 3 #[.int .i64 (y0),.int .i64 (y1),.int .i64 (y2)] 1).run Tryz.prog w=.ok (.int .i64 (y1)) w:=part_one Tryz.isAgg3 rfl
 have y2p:(part 3 #[.int .i64 (y0),.int .i64 (y1),.int .i64 (y2)] 2).run Tryz.prog w=.ok (.int .i64 (y2)) w:=part_one Tryz.isAgg3 rfl
 simp only [Op.eqFields,Sem.run_bind,Sem.run_ite,Sem.run_pure,x0p,x1p,x2p,y0p,y1p,y2p,Result.andThen_ok,run_equalIn_int _ _ _ _ _ _ _ Tryz.underlying3]
 simp
 grind
theorem eg_66:Tryz.prog.eqGuardType Tryz.prog.depth 66=false:=by kernel_rfl
def f68 (x0:List Int):Option (List Int):=apnd 8 [] x0
theorem en68:Enters Tryz.prog 68:=enters_of Tryz.func68 (by kernel_rfl) rfl
theorem en61:Enters Tryz.prog 61:=enters_of Tryz.func61 (by kernel_rfl) rfl
theorem en62:Enters Tryz.prog 62:=enters_of Tryz.func62 (by kernel_rfl) rfl
def f157 (x0:List Int):Option Int:=compactN x0
theorem en157:Enters Tryz.prog 157:=enters_of Tryz.func157 (by kernel_rfl) rfl
theorem wk157 {iI:Nat} {gI:Gh} {wI:World} {x0:List Int} {up0:Value} (mp0:OM iI gI wI 3 x0 up0) {r:Int} (h:f157 x0=some r):FnM Tryz.prog 157 #[up0] iI gI wI (fun _ _ u=>∃ a c,u=.slice a r.toNat c):=
 compact_fnM ⟨fun blk off cap zs w h1 h2 h3=>Tryz.slices_Compact_int blk off cap zs w h1 h2 h3,fun a cap w=>Tryz.slices_Compact_int_empty a cap w⟩ mp0 h
def f6 (x0:UInt8) (x1:UInt8) (x2:List (Vector UInt8 3)):Option (LoomMill × (List LoomOrder)):=
 (rem64 ((x1).toNat:Int) (4:Int)).bind fun y2=>
 Option.bind (α:=LoomMill) (
  lp (σ:=LoomMill × Int) (fun yK (y9,y6)=>
   jn (σ:=Unit) (fun _=>
    Option.bind (α:=LoomMill) (
     (apnd 8 ((y9).Widths) (([(10:Int)]:List Int))).bind fun eG=>
     some ({ y9 with Widths:=eG })
     ) fun rA=>
    yK (rA,(w64 (y6 + (1:Int))))
    ) fun zK=>
   (rem64 ((x0).toNat:Int) (3:Int)).bind fun iE=>
   bif (decide (y6 ≤ iE)) then
    zK ()
   else
    some (y9)
   ) big ((⟨[],y2⟩:LoomMill),(0:Int))
  ) fun l5=>
 Option.bind (α:=(List LoomOrder)) (
  lp (σ:=(List LoomOrder) × Int × Int) (fun gG (g8,x5,o0)=>
   jn (σ:=Unit) (fun _=>
    Option.bind (α:=(List LoomOrder) × Int) (
     (idx x2 o0).bind fun hG=>
     (idx (hG).toList (0:Int)).bind fun oB=>
     (rem64 ((oB).toNat:Int) (10:Int)).bind fun r8=>
     (idx x2 o0).bind fun iG=>
     (idx (iG).toList (1:Int)).bind fun tB=>
     (rem64 ((tB).toNat:Int) (3:Int)).bind fun l9=>
     (idx x2 o0).bind fun jG=>
     (idx (jG).toList (2:Int)).bind fun vB=>
     (rem64 ((vB).toNat:Int) (12:Int)).bind fun i6=>
     (idx x2 o0).bind fun kG=>
     (idx (kG).toList (1:Int)).bind fun yD=>
     (quo64 ((yD).toNat:Int) (3:Int)).bind fun zD=>
     (rem64 zD (9:Int)).bind fun aB=>
     (apnd 40 g8 (([(⟨(w64 ((1:Int) + r8)),l9,(w64 ((1:Int) + i6)),0,(w64 ((w64 (x5 + (w64 ((w64 ((1:Int) + i6)) + (l5).Change)))) + aB))⟩:LoomOrder)]:List LoomOrder))).bind fun lG=>
     some (lG,(w64 (x5 + (w64 ((w64 ((1:Int) + i6)) + (l5).Change)))))
     ) fun (n9,z9)=>
    gG (n9,z9,(w64 (o0 + (1:Int))))
    ) fun mG=>
   Option.bind (α:=Bool) (
    bif (decide (o0 < ((x2).length : Int))) then
     some ((decide (o0 < (6:Int))))
    else
     some (false)
    ) fun m8=>
   bif m8 then
    mG ()
   else
    some (g8)
   ) big (([]:List LoomOrder),(0:Int),(0:Int))
  ) fun yA=>
 some (l5,yA)
theorem en6:Enters Tryz.prog 6:=enters_of Tryz.func6 (by kernel_rfl) rfl
theorem wk6 {gI:Gh} {wI:World} {x0:UInt8} {x1:UInt8} {x2:List (Vector UInt8 3)} {up2:Value} (rp2:RV gI.m wI x2 up2) {r:LoomMill × (List LoomOrder)} (h:f6 x0 x1 x2=some r):Fn Tryz.prog 6 #[.int .u8 (UInt8.toNat (x0)),.int .u8 (UInt8.toNat (x1)),up2] gI wI (fun m w v=>∃ y0 y1,v=.tuple #[y0,y1]∧RV m w (r.1) y0∧RV m w (r.2) y1):=by
 unfold f6 at h
 refine fn_of_E Tryz.func6 rfl (Nat.le_of_ble_eq_true rfl) fun g0 hm hfr=>?_
 have rp2:RV g0.m wI x2 up2:=hm ▸ rp2
 show E _ 89 none _ _ _ _ _
 refine Zf (Za (Ze .plain rfl (D_allocOc (g:=g0) 2006 (⟨[],0⟩:LoomMill) Tryz.zeroValue30 (fun m w=>⟨_,(rep_two rep_nil rep_int),rfl⟩) fun g1 w1 p1 hs b1 cb=>?_)))
 have hfr:=hfr.stp hs
 have rp2:=rp2.stp hs
 have iA:OSF 2006 60600 0 g1 w1 3 30 ([]:List Int) p1:=cb.osf (by rfl)
 clear cb
 refine Zg (.slice none 0 0) rfl rfl ?_
 refine Zb (Zd (Zf (Za (Zn (.int .u8 (UInt8.toNat (x1))) rfl rfl ?_))))
 refine EL_p (.int .i64 (((x1).toNat:Int))) (P_u8int Tryz.underlying5 Tryz.underlying3 rfl) rfl ?_
 obtain ⟨y2,hy2,h⟩:=bsome h
 refine EL_p (.int .i64 (y2)) (P_int rfl rfl (congrArg (Option.map (Value.int .i64)) hy2)) rfl ?_
 have r3:RV g1.m w1 (⟨[],y2⟩:LoomMill) (.agg (setCh [[.slice none 0 0],[.int .i64 0]] [(1,.int .i64 (y2))]).flatten.toArray):=RV_build rfl (rep_pair (rep_nil) (rep_last (rfl)))
 generalize hv3:(Value.agg (setCh [[.slice none 0 0],[.int .i64 0]] [(1,.int .i64 (y2))]).flatten.toArray)=v3 at r3
 refine EL_p v3 (hv3 ▸ P_build (vs:=[(1,.int .i64 (y2))]) [[.slice none 0 0],[.int .i64 0]] lay_30 rfl rfl (.cons rfl .nil) ⟨⟨_,rfl,rfl⟩,trivial⟩) rfl ?_
 refine Ze .plain rfl (D_buildSlice (g:=g1) 3018 (xs:=([]:List LoomOrder)) (vs:=[]) Tryz.underlying31 Tryz.sizeOf49 Tryz.zeroValue49 rfl rfl .nil RVs.nil rfl rfl fun g4 w4 v4 hs o4 r4 hxt hfl=>?_)
 have hfr:=hfr.stp hs
 have rp2:=rp2.stp hs
 have iA:=iA.stp hs rfl
 have b1:=b1.stp hs rfl
 have r3:=r3.stp hs
 refine Ze .plain rfl (D_allocOc (g:=g4) 2008 (⟨[],0⟩:LoomMill) Tryz.zeroValue30 (fun m w=>⟨_,(rep_two rep_nil rep_int),rfl⟩) fun g5 w5 p5 hs b5 cb=>?_)
 have hfr:=hfr.stp hs
 have rp2:=rp2.stp hs
 have iA:=iA.stp hs rfl
 have b1:=b1.stp hs rfl
 have r3:=r3.stp hs
 have r4:=r4.stp hs
 have o4:=o4.stp hs rfl
 have dN:OSF 2008 60800 0 g5 w5 3 30 ([]:List Int) p5:=cb.osf (by rfl)
 clear cb
 refine Ze .plain rfl (D_storeOc (g:=g5) (v:=v3) Tryz.sizeOf30 rfl b5 rfl r3 fun g6 w6 hs b6 cb=>?_)
 have eL:OSF 2008 60800 0 g6 w6 3 30 ([]:List Int) p5:=cb.osf (by rw [← hv3]; rfl)
 clear cb
 have hfr:=hfr.stp hs
 have rp2:=rp2.stp hs
 have iA:=iA.stp hs rfl
 have b1:=b1.stp hs rfl
 have r4:=r4.stp hs
 have o4:=o4.stp hs rfl
 refine Zg v4 rfl rfl ?_
 refine Zg (.int .i64 (0)) rfl rfl ?_
 refine Zb (Zd ?_)
 obtain ⟨l5,hx,h⟩:=bsome h
 refine E_join (fun e w=>∃ (g:Gh) ,Fr gI wI g w∧e 2=up2∧RV g.m w (x2:List (Vector UInt8 3)) up2∧e 6=p1∧OB 2006 g w 30 ((⟨[],0⟩:LoomMill):LoomMill) p1∧OSF 2006 60600 0 g w 3 30 (((⟨[],0⟩:LoomMill)).Widths) p1∧e 8=p5∧OB 2008 g w 30 (l5:LoomMill) p5∧OSF 2008 60800 0 g w 3 30 ((l5).Widths) p5∧e 9=v4∧RV g.m w (([]:List LoomOrder):List LoomOrder) v4∧OS 3018 g w 49 (([]:List LoomOrder):List LoomOrder) v4∧e 10=.int .i64 ((0:Int))) (fun Q' hQ=>?_) (fun eN dO hR=>?_)
 ·replace h := hx
  clear hx
  refine Zf (Za (Zg (.int .i64 (0)) rfl rfl ?_))
  refine Zb (Zd (Zr ?_))
  refine E_lp h (fun (s:LoomMill × Int) e w=>∃ (g:Gh) ,Fr gI wI g w∧e 0=.int .u8 (UInt8.toNat (x0))∧e 2=up2∧RV g.m w (x2:List (Vector UInt8 3)) up2∧e 6=p1∧OB 2006 g w 30 ((⟨[],0⟩:LoomMill):LoomMill) p1∧OSF 2006 60600 0 g w 3 30 (((⟨[],0⟩:LoomMill)).Widths) p1∧e 8=p5∧OB 2008 g w 30 (s.1:LoomMill) p5∧OSF 2008 60800 0 g w 3 30 ((s.1).Widths) p5∧e 9=v4∧RV g.m w (([]:List LoomOrder):List LoomOrder) v4∧OS 3018 g w 49 (([]:List LoomOrder):List LoomOrder) v4∧e 10=.int .i64 ((0:Int))∧e 11=.int .i64 (s.2)) ⟨g6,hfr,rfl,rfl,rp2,rfl,b1,iA,rfl,b6,eL,rfl,r4,o4,rfl,rfl⟩ (fun X30 yK gL=>?_)
  rintro ⟨y9,y6⟩ gN eO ⟨aL,hfr,lE,mE,oE,rE,uE,u6_0_31,vE,xE,u8_0_31,yE,zE,cF,qC,rC⟩ h
  refine Zq h (fun (s:Unit) e w=>∃ (g:Gh) ,Fr gI wI g w∧e 0=.int .u8 (UInt8.toNat (x0))∧e 2=up2∧RV g.m w (x2:List (Vector UInt8 3)) up2∧e 6=p1∧OB 2006 g w 30 ((⟨[],0⟩:LoomMill):LoomMill) p1∧OSF 2006 60600 0 g w 3 30 (((⟨[],0⟩:LoomMill)).Widths) p1∧e 8=p5∧OB 2008 g w 30 (y9:LoomMill) p5∧OSF 2008 60800 0 g w 3 30 ((y9).Widths) p5∧e 9=v4∧RV g.m w (([]:List LoomOrder):List LoomOrder) v4∧OS 3018 g w 49 (([]:List LoomOrder):List LoomOrder) v4∧e 10=.int .i64 ((0:Int))∧e 11=.int .i64 (y6)) (fun X34 zK iL h=>?_) ?_
  ·refine Zf (Za (Zo rC rfl ?_))
   refine Zo lE rfl ?_
   refine EL_p (.int .i64 (((x0).toNat:Int))) (P_u8int Tryz.underlying5 Tryz.underlying3 rfl) rfl ?_
   obtain ⟨iE,jL,h⟩:=bsome h
   refine EL_p (.int .i64 (iE)) (P_int rfl rfl (congrArg (Option.map (Value.int .i64)) jL)) rfl ?_
   refine EL_in (.bool ((decide (y6 ≤ iE)))) rfl rfl rfl rfl ?_
   refine Zb (Zd ?_)
   rcases Zt h with ⟨aE,h⟩ | ⟨aE,h⟩
   ·refine E_ct aE rfl ?_
    exact Zu (Zd (iL () _ _ ⟨aL,hfr,lE,mE,oE,rE,uE,u6_0_31,vE,xE,u8_0_31,yE,zE,cF,qC,rC⟩ h))
   ·refine E_cf aE rfl ?_
    refine E_exit ?_
    refine thn_e ?_
    refine thn_e ?_
    refine blk_hit ?_
    obtain rfl:=sinj h
    exact hQ _ _ ⟨aL,hfr,mE,oE,rE,uE,u6_0_31,vE,xE,u8_0_31,yE,zE,cF,qC⟩
  ·rintro _ iN gO ⟨bL, hfr, tI, uI, v8, vI, x8, u6_0_37, yB, l8, u8_0_37, yI, a9, d9, sG, xG⟩ h
   obtain ⟨rA,hx,h⟩:=bsome h
   refine E_join (fun e w=>∃ (g:Gh) ,Fr gI wI g w∧e 0=.int .u8 (UInt8.toNat (x0))∧e 2=up2∧RV g.m w (x2:List (Vector UInt8 3)) up2∧e 6=p1∧OB 2006 g w 30 ((⟨[],0⟩:LoomMill):LoomMill) p1∧OSF 2006 60600 0 g w 3 30 (((⟨[],0⟩:LoomMill)).Widths) p1∧e 8=p5∧OB 2008 g w 30 (rA:LoomMill) p5∧OSF 2008 60800 0 g w 3 30 ((rA).Widths) p5∧e 9=v4∧RV g.m w (([]:List LoomOrder):List LoomOrder) v4∧OS 3018 g w 49 (([]:List LoomOrder):List LoomOrder) v4∧e 10=.int .i64 ((0:Int))∧e 11=.int .i64 (y6)) (fun Q' hQ=>?_) (fun jN iO hR=>?_)
   ·replace h := hx
    clear hx
    refine Zr ?_
    refine Za (EL_p (fPtr p5 0) (Zc at_30_0 yB (OB.ptr l8)) rfl ?_)
    refine Ze .plain rfl (D_loadFS (g:=bL) part_LoomMill_0.1 Tryz.isAgg28 Tryz.sizeOf28 rfl l8 u8_0_37 fun jO yG o46=>?_)
    refine Ze .plain rfl (D_buildSlice (g:=bL) 3028 (xs:=([(10:Int)]:List Int)) (vs:=[.int .i64 (10)]) Tryz.underlying28 Tryz.sizeOf3 Tryz.zeroValue3 rfl rfl (.cons rfl .nil) (RVs.cons (Zj.2 rfl) RVs.nil) rfl rfl fun nM kO lO hs o47 oM hxt hfl=>?_)
    have hfr:=hfr.stp hs
    have v8:=v8.stp hs
    have u6_0_37:=u6_0_37.stp hs rfl
    have x8:=x8.stp hs rfl
    have l8:=l8.stp hs rfl
    have a9:=a9.stp hs
    have d9:=d9.stp hs rfl
    have yG:=yG.stp hs
    have o46:=o46.stp hs rfl
    obtain ⟨eG,lL,h⟩:=bsome h
    refine Ze .plain rfl (D_append (g:=nM) (i:=60800) Tryz.underlying28 info_3 rfl rfl o46 yG rfl oM lL fun pM mO nO hs o48 dL _=>?_)
    have hfr:=hfr.stp hs
    have v8:=v8.stp hs
    have u6_0_37:=u6_0_37.stp hs rfl
    have x8:=x8.stp hs rfl
    have l8:=l8.stp hs rfl
    have a9:=a9.stp hs
    have d9:=d9.stp hs rfl
    refine EL_p (fPtr p5 0) (Zc at_30_0 yB (OB.ptr l8)) rfl ?_
    refine Ze .plain rfl (D_storeFc (g:=pM) part_LoomMill_0 Tryz.sizeOf28 rfl l8 rfl dL fun qM oO hs b51 rst hos=>?_)
    have zI:=hos _ _ 60800 3 (eG:List Int) (rv_cells1 dL) rfl o48
    clear rst hos
    have hfr:=hfr.stp hs
    have v8:=v8.stp hs
    have u6_0_37:=u6_0_37.stp hs rfl
    have x8:=x8.stp hs rfl
    have a9:=a9.stp hs
    have d9:=d9.stp hs rfl
    refine Zb (blk_n ?_)
    obtain rfl:=sinj h
    exact hQ _ _ ⟨qM,hfr,tI,uI,v8,vI,x8,u6_0_37,yB,b51,zI,yI,a9,d9,sG,xG⟩
   ·clear hx
    obtain ⟨rM,hfr,eJ,gJ,iJ,jJ,kJ,u6_0_52,lJ,mJ,u8_0_52,nJ,oJ,pJ,zG,aH⟩:=hR
    refine Za (Zo aH rfl ?_)
    refine EL_in (.int .i64 ((w64 (y6 + (1:Int))))) rfl rfl rfl rfl ?_
    refine Zg (.int .i64 ((w64 (y6 + (1:Int))))) rfl rfl ?_
    exact Zb (Zd (gL (rA,(w64 (y6 + (1:Int)))) _ _ ⟨rM,hfr,eJ,gJ,iJ,jJ,kJ,u6_0_52,lJ,mJ,u8_0_52,nJ,oJ,pJ,zG,rfl⟩ h))
 ·clear hx
  obtain ⟨sM,hfr,qJ,rJ,sJ,vJ,u6_0_53,xJ,yJ,u8_0_53,zJ,aK,bK,cH⟩:=hR
  obtain ⟨yA,hx,h⟩:=bsome h
  refine E_join (fun e w=>∃ (g:Gh) (v9:Value),Fr gI wI g w∧e 6=p1∧OB 2006 g w 30 ((⟨[],0⟩:LoomMill):LoomMill) p1∧OSF 2006 60600 0 g w 3 30 (((⟨[],0⟩:LoomMill)).Widths) p1∧e 8=p5∧OB 2008 g w 30 (l5:LoomMill) p5∧OSF 2008 60800 0 g w 3 30 ((l5).Widths) p5∧e 9=v9∧RV g.m w (yA:List LoomOrder) v9∧OS 3018 g w 49 (yA:List LoomOrder) v9) (fun Q' hQ=>?_) (fun uM kN hR=>?_)
  ·replace h := hx
   clear hx
   refine Zf (Za (Zg (.int .i64 (0)) rfl rfl ?_))
   refine Zb (Zd (Zr ?_))
   refine E_lp h (fun (s:(List LoomOrder) × Int × Int) e w=>∃ (g:Gh) (v9:Value),Fr gI wI g w∧e 2=up2∧RV g.m w (x2:List (Vector UInt8 3)) up2∧e 6=p1∧OB 2006 g w 30 ((⟨[],0⟩:LoomMill):LoomMill) p1∧OSF 2006 60600 0 g w 3 30 (((⟨[],0⟩:LoomMill)).Widths) p1∧e 8=p5∧OB 2008 g w 30 (l5:LoomMill) p5∧OSF 2008 60800 0 g w 3 30 ((l5).Widths) p5∧e 9=v9∧RV g.m w (s.1:List LoomOrder) v9∧OS 3018 g w 49 (s.1:List LoomOrder) v9∧e 10=.int .i64 (s.2.1)∧e 12=.int .i64 (s.2.2)) ⟨sM,(v4),hfr,qJ,rJ,sJ,vJ,u6_0_53,xJ,yJ,u8_0_53,zJ,aK,bK,cH,rfl⟩ (fun X208 gG cK=>?_)
   rintro ⟨g8,x5,o0⟩ vM lN ⟨dH,k8,hfr,dB,iB,uC,vC,u6_0_209,aD,bD,u8_0_209,cD,eD,gD,mB,bA⟩ h
   refine Zq h (fun (s:Unit) e w=>∃ (g:Gh) ,Fr gI wI g w∧e 2=up2∧RV g.m w (x2:List (Vector UInt8 3)) up2∧e 6=p1∧OB 2006 g w 30 ((⟨[],0⟩:LoomMill):LoomMill) p1∧OSF 2006 60600 0 g w 3 30 (((⟨[],0⟩:LoomMill)).Widths) p1∧e 8=p5∧OB 2008 g w 30 (l5:LoomMill) p5∧OSF 2008 60800 0 g w 3 30 ((l5).Widths) p5∧e 9=k8∧RV g.m w (g8:List LoomOrder) k8∧OS 3018 g w 49 (g8:List LoomOrder) k8∧e 10=.int .i64 (x5)∧e 12=.int .i64 (o0)) (fun X214 mG dK h=>?_) ?_
   ·obtain ⟨m8, hx, h⟩ := bsome h
    refine E_join (fun e w=>∃ (g:Gh) ,Fr gI wI g w∧e 2=up2∧RV g.m w (x2:List (Vector UInt8 3)) up2∧e 6=p1∧OB 2006 g w 30 ((⟨[],0⟩:LoomMill):LoomMill) p1∧OSF 2006 60600 0 g w 3 30 (((⟨[],0⟩:LoomMill)).Widths) p1∧e 8=p5∧OB 2008 g w 30 (l5:LoomMill) p5∧OSF 2008 60800 0 g w 3 30 ((l5).Widths) p5∧e 9=k8∧RV g.m w (g8:List LoomOrder) k8∧OS 3018 g w 49 (g8:List LoomOrder) k8∧e 10=.int .i64 (x5)∧e 12=.int .i64 (o0)∧e 38=.bool (m8)) (fun Q' hQ=>?_) (fun xM mN hR=>?_)
    ·replace h := hx
     clear hx
     refine Za (Zo bA rfl ?_)
     refine Zo dB rfl ?_
     refine EL_p (.int .i64 ((x2).length:Int)) (P_len Tryz.underlying27 rfl iB) rfl ?_
     refine EL_in (.bool ((decide (o0 < ((x2).length:Int))))) rfl rfl rfl rfl ?_
     refine Zn (.bool ((decide (o0 < ((x2).length:Int))))) rfl rfl ?_
     rcases Zt h with ⟨k9,h⟩ | ⟨k9,h⟩
     ·refine EL_y (.int .i64 (o0)) (Zk bA) rfl rfl k9 rfl ?_
      refine EL_y (.bool ((decide (o0 < (6:Int))))) (P_int rfl rfl rfl) rfl rfl k9 rfl ?_
      refine EL_p (.bool ((decide (o0 < (6:Int))))) (Zl (b:=(decide (o0 < ((x2).length:Int)))) rfl (pick_t k9 rfl)) rfl ?_
      refine Zb ?_
      obtain rfl:=sinj h
      exact hQ _ _ ⟨dH,hfr,dB,iB,uC,vC,u6_0_209,aD,bD,u8_0_209,cD,eD,gD,mB,bA,rfl⟩
     ·refine EL_s rfl rfl k9 rfl rfl ?_
      refine EL_s rfl rfl k9 rfl rfl ?_
      refine EL_p (.bool false) (Zl (b:=(decide (o0 < ((x2).length:Int)))) rfl (pick_f k9 rfl)) rfl ?_
      refine Zb ?_
      obtain rfl:=sinj h
      exact hQ _ _ ⟨dH,hfr,dB,iB,uC,vC,u6_0_209,aD,bD,u8_0_209,cD,eD,gD,mB,bA,rfl⟩
    ·clear hx
     obtain ⟨gH,hfr,iH,jH,iD,jD,u6_0_217,lD,nD,u8_0_217,oD,sD,tD,yF,zF,nB⟩:=hR
     rcases Zt h with ⟨zB,h⟩ | ⟨zB,h⟩
     ·refine E_cond_true (Eq.trans (show ev _ _ = .bool (m8) from nB) (congrArg Value.bool zB)) ?_
      exact Zu (Zd (dK () _ _ ⟨gH,hfr,iH,jH,iD,jD,u6_0_217,lD,nD,u8_0_217,oD,sD,tD,yF,zF⟩ h))
     ·refine E_cond_false (Eq.trans (show ev _ _ = .bool (m8) from nB) (congrArg Value.bool zB)) ?_
      refine E_exit ?_
      refine thn_e ?_
      refine thn_e ?_
      refine blk_hit ?_
      obtain rfl:=sinj h
      exact hQ _ _ ⟨gH,(k8),hfr,iD,jD,u6_0_217,lD,nD,u8_0_217,oD,sD,tD⟩
   ·rintro _ bN mL ⟨kH, hfr, u9, u3, lH, x6, u6_0_219, uD, t5, u8_0_219, mH, i7, m7, aG, n8⟩ h
    obtain ⟨⟨n9,z9⟩,hx,h⟩:=bsome h
    refine E_join (fun e w=>∃ (g:Gh) (v9:Value),Fr gI wI g w∧e 2=up2∧RV g.m w (x2:List (Vector UInt8 3)) up2∧e 6=p1∧OB 2006 g w 30 ((⟨[],0⟩:LoomMill):LoomMill) p1∧OSF 2006 60600 0 g w 3 30 (((⟨[],0⟩:LoomMill)).Widths) p1∧e 8=p5∧OB 2008 g w 30 (l5:LoomMill) p5∧OSF 2008 60800 0 g w 3 30 ((l5).Widths) p5∧e 9=v9∧RV g.m w (n9:List LoomOrder) v9∧OS 3018 g w 49 (n9:List LoomOrder) v9∧e 10=.int .i64 (z9)∧e 12=.int .i64 (o0)) (fun Q' hQ=>?_) (fun cN nN hR=>?_)
    ·replace h := hx
     clear hx
     refine Zr ?_
     refine Zf ?_
     obtain ⟨hG,dF,h⟩:=bsome h
     have nH:=PT_idx u3 dF
     obtain ⟨oB,eF,h⟩:=bsome h
     have nL:=PT_idxA nH eF
     refine Zs (x:=.tmp 44) Tryz.isAgg5 Tryz.sizeOf5 nL fun oN oL lK=>?_
     obtain rfl:=RV_u8.1 oL
     obtain ⟨r8,mK,h⟩:=bsome h
     obtain ⟨iG,rF,h⟩:=bsome h
     have oH:=PT_idx u3 rF
     obtain ⟨tB,sF,h⟩:=bsome h
     have pL:=PT_idxA oH sF
     refine Zs (x:=.tmp 52) Tryz.isAgg5 Tryz.sizeOf5 pL fun pN qL nK=>?_
     obtain rfl:=RV_u8.1 qL
     obtain ⟨l9,oK,h⟩:=bsome h
     obtain ⟨jG,tF,h⟩:=bsome h
     have pH:=PT_idx u3 tF
     obtain ⟨vB,uF,h⟩:=bsome h
     have rL:=PT_idxA pH uF
     refine Zs (x:=.tmp 59) Tryz.isAgg5 Tryz.sizeOf5 rL fun qN tL pK=>?_
     obtain rfl:=RV_u8.1 tL
     obtain ⟨i6,qK,h⟩:=bsome h
     have cC:RV kH.m mL (⟨(w64 ((1:Int) + r8)),l9,(w64 ((1:Int) + i6)),0,0⟩:LoomOrder) (.agg (setCh [[.int .i64 0],[.int .i64 0],[.int .i64 0],[.int .i64 0],[.int .i64 0]] [(0,.int .i64 ((w64 ((1:Int) + r8)))),(1,.int .i64 (l9)),(2,.int .i64 ((w64 ((1:Int) + i6))))]).flatten.toArray):=RV_build rfl (rep_pair (rfl) (rep_pair (rfl) (rep_pair (rfl) (rep_pair (rep_int) (rep_last (rep_int))))))
     generalize sK:(Value.agg (setCh [[.int .i64 0],[.int .i64 0],[.int .i64 0],[.int .i64 0],[.int .i64 0]] [(0,.int .i64 ((w64 ((1:Int) + r8)))),(1,.int .i64 (l9)),(2,.int .i64 ((w64 ((1:Int) + i6))))]).flatten.toArray)=qH at cC
     refine E_drawL (g:=kH) (n:=25) [(24,(fun v g w=>OB 2013 g w 49 (⟨0,0,0,0,0⟩:LoomOrder) v))] [0,1,2,3,4,5,6,7,8,9,10,11,12,13,14,15,16,17,18,19,20,21,22,23,24] rfl mixed (by kernel_rfl) (⟨fun _=>up_ob,trivial⟩) ?_
     refine L_p up2 rfl rfl (Zk u9) ?_
     refine L_p (.int .i64 (o0)) rfl rfl (Zk n8) ?_
     refine L_p (ePtr up2 o0 3) rfl rfl (Zh (α:=Vector UInt8 3) Tryz.underlying27 Tryz.sizeOf78 rfl u3 rfl dF) ?_
     refine L_p (fPtr (ePtr up2 o0 3) (((0:Int):Int).toNat * 1)) rfl rfl (P_indexAddrA (α:=UInt8) Tryz.underlying78 Tryz.sizeOf5 rfl (PT.ptr nH) rfl eF) ?_
     refine L_ld (c:=.int .u8 (UInt8.toNat (oB))) rfl rfl .plain (fun _ _ h=>h.ch) lK rfl ?_
     refine L_p (.int .i64 (((oB).toNat:Int))) rfl rfl (P_u8int Tryz.underlying5 Tryz.underlying3 rfl) ?_
     refine L_p (.int .i64 (r8)) rfl rfl (P_int rfl rfl (congrArg (Option.map (Value.int .i64)) mK)) ?_
     refine L_p (.int .i64 ((w64 ((1:Int) + r8)))) rfl rfl (P_int rfl rfl rfl) ?_
     refine L_p up2 rfl rfl (Zk u9) ?_
     refine L_p (.int .i64 (o0)) rfl rfl (Zk n8) ?_
     refine L_p (ePtr up2 o0 3) rfl rfl (Zh (α:=Vector UInt8 3) Tryz.underlying27 Tryz.sizeOf78 rfl u3 rfl rF) ?_
     refine L_p (fPtr (ePtr up2 o0 3) (((1:Int):Int).toNat * 1)) rfl rfl (P_indexAddrA (α:=UInt8) Tryz.underlying78 Tryz.sizeOf5 rfl (PT.ptr oH) rfl sF) ?_
     refine L_ld (c:=.int .u8 (UInt8.toNat (tB))) rfl rfl .plain (fun _ _ h=>h.ch) nK rfl ?_
     refine L_p (.int .i64 (((tB).toNat:Int))) rfl rfl (P_u8int Tryz.underlying5 Tryz.underlying3 rfl) ?_
     refine L_p (.int .i64 (l9)) rfl rfl (P_int rfl rfl (congrArg (Option.map (Value.int .i64)) oK)) ?_
     refine L_p up2 rfl rfl (Zk u9) ?_
     refine L_p (.int .i64 (o0)) rfl rfl (Zk n8) ?_
     refine L_p (ePtr up2 o0 3) rfl rfl (Zh (α:=Vector UInt8 3) Tryz.underlying27 Tryz.sizeOf78 rfl u3 rfl tF) ?_
     refine L_p (fPtr (ePtr up2 o0 3) (((2:Int):Int).toNat * 1)) rfl rfl (P_indexAddrA (α:=UInt8) Tryz.underlying78 Tryz.sizeOf5 rfl (PT.ptr pH) rfl uF) ?_
     refine L_ld (c:=.int .u8 (UInt8.toNat (vB))) rfl rfl .plain (fun _ _ h=>h.ch) pK rfl ?_
     refine L_p (.int .i64 (((vB).toNat:Int))) rfl rfl (P_u8int Tryz.underlying5 Tryz.underlying3 rfl) ?_
     refine L_p (.int .i64 (i6)) rfl rfl (P_int rfl rfl (congrArg (Option.map (Value.int .i64)) qK)) ?_
     refine L_p (.int .i64 ((w64 ((1:Int) + i6)))) rfl rfl (P_int rfl rfl rfl) ?_
     refine L_p qH rfl rfl (sK ▸ P_build (vs:=[(0,.int .i64 ((w64 ((1:Int) + r8)))),(1,.int .i64 (l9)),(2,.int .i64 ((w64 ((1:Int) + i6))))]) [[.int .i64 0],[.int .i64 0],[.int .i64 0],[.int .i64 0],[.int .i64 0]] lay_49 rfl rfl (.cons rfl (.cons rfl (.cons rfl .nil))) ⟨⟨_,rfl,rfl⟩,⟨⟨_,rfl,rfl⟩,⟨⟨_,rfl,rfl⟩,trivial⟩⟩⟩) ?_
     refine L_do (φ:=fun v g w=>OB 2013 g w 49 (⟨0,0,0,0,0⟩:LoomOrder) v) rfl rfl .plain (fun g w hd=>D_allocX (g:=g) 2013 (⟨0,0,0,0,0⟩:LoomOrder) Tryz.zeroValue49 (fun m w=>⟨_,(rep_two rep_int (rep_two rep_int (rep_two rep_int (rep_two rep_int rep_int)))),rfl⟩) fun g' w' v hs b=>⟨g',hs,b⟩) (fun bE hv=>?_)
     clear hv
     refine L_nil fun uL rN hall=>?_
     have hs:=hall.1
     have hfr:=hfr.ext hs
     have u3:=u3.ext hs
     have u6_0_219:=u6_0_219.ext hs
     have x6:=x6.ext hs
     have u8_0_219:=u8_0_219.ext hs
     have t5:=t5.ext hs
     have i7:=i7.ext hs
     have m7:=m7.ext hs
     have cC:=cC.ext hs
     have b341:=(word_all (A:=fun g w=>OB 2013 g w 49 (⟨0,0,0,0,0⟩:LoomOrder) bE) 24 rfl hall)
     clear hs hall
     refine Ze .plain rfl (D_storeOc (g:=uL) (v:=qH) Tryz.sizeOf49 rfl b341 rfl cC fun mC sN hs b342 cb=>?_)
     clear cb
     have hfr:=hfr.stp hs
     have u3:=u3.stp hs
     have u6_0_219:=u6_0_219.stp hs rfl
     have x6:=x6.stp hs rfl
     have u8_0_219:=u8_0_219.stp hs rfl
     have t5:=t5.stp hs rfl
     have i7:=i7.stp hs
     have m7:=m7.stp hs rfl
     refine Zb (Zd (Zf (Za (Zo aG rfl ?_))))
     refine EL_p (fPtr bE 2) (Zc at_49_2 rfl (OB.ptr b342)) rfl ?_
     refine Ze .plain rfl (D_loadF (g:=mC) part_LoomOrder_2.1 Tryz.isAgg3 Tryz.sizeOf3 rfl b342 fun tN vL=>?_)
     obtain rfl:=Zj.1 vL
     refine EL_p (fPtr p5 1) (Zc at_30_1 uD (OB.ptr t5)) rfl ?_
     refine Ze .plain rfl (D_loadF (g:=mC) part_LoomMill_1.1 Tryz.isAgg3 Tryz.sizeOf3 rfl t5 fun uN xL=>?_)
     obtain rfl:=Zj.1 xL
     refine EL_p (.int .i64 ((w64 ((w64 ((1:Int) + i6)) + (l5).Change)))) (P_int rfl rfl rfl) rfl ?_
     refine EL_p (.int .i64 ((w64 (x5 + (w64 ((w64 ((1:Int) + i6)) + (l5).Change)))))) (P_int rfl rfl rfl) rfl ?_
     refine EL_p (.int .i64 ((w64 (x5 + (w64 ((w64 ((1:Int) + i6)) + (l5).Change)))))) (P_assign rfl) rfl ?_
     refine Zb (Zd (Zf (Za (EL_p (.int .i64 ((w64 (x5 + (w64 ((w64 ((1:Int) + i6)) + (l5).Change)))))) (Zk rfl) rfl ?_))))
     refine Zo u9 rfl ?_
     refine Zo n8 rfl ?_
     obtain ⟨kG,vF,h⟩:=bsome h
     refine EL_p (ePtr up2 o0 3) (Zh (α:=Vector UInt8 3) Tryz.underlying27 Tryz.sizeOf78 rfl u3 rfl vF) rfl ?_
     have sH:=PT_idx u3 vF
     obtain ⟨yD,xF,h⟩:=bsome h
     refine EL_p (fPtr (ePtr up2 o0 3) (((1:Int):Int).toNat * 1)) (P_indexAddrA (α:=UInt8) Tryz.underlying78 Tryz.sizeOf5 rfl (PT.ptr sH) rfl xF) rfl ?_
     have yL:=PT_idxA sH xF
     refine Ze .plain rfl (D_load (g:=mC) Tryz.isAgg5 Tryz.sizeOf5 rfl yL fun vN zL=>?_)
     obtain rfl:=RV_u8.1 zL
     refine EL_p (.int .i64 (((yD).toNat:Int))) (P_u8int Tryz.underlying5 Tryz.underlying3 rfl) rfl ?_
     obtain ⟨zD,tK,h⟩:=bsome h
     refine EL_p (.int .i64 (zD)) (P_int rfl rfl (congrArg (Option.map (Value.int .i64)) tK)) rfl ?_
     obtain ⟨aB,uK,h⟩:=bsome h
     refine EL_p (.int .i64 (aB)) (P_int rfl rfl (congrArg (Option.map (Value.int .i64)) uK)) rfl ?_
     refine EL_p (.int .i64 ((w64 ((w64 (x5 + (w64 ((w64 ((1:Int) + i6)) + (l5).Change)))) + aB)))) (P_int rfl rfl rfl) rfl ?_
     refine EL_p (fPtr bE 4) (Zc at_49_4 rfl (OB.ptr b342)) rfl ?_
     refine Ze .plain rfl (D_storeFc (g:=mC) part_LoomOrder_4 Tryz.sizeOf3 rfl b342 rfl (Zj.2 rfl) fun tH xN hs b355 rst hos=>?_)
     clear rst hos
     have hfr:=hfr.stp hs
     have u3:=u3.stp hs
     have u6_0_219:=u6_0_219.stp hs rfl
     have x6:=x6.stp hs rfl
     have u8_0_219:=u8_0_219.stp hs rfl
     have t5:=t5.stp hs rfl
     have i7:=i7.stp hs
     have m7:=m7.stp hs rfl
     refine Zb (Zd (Za (Zo mH rfl ?_)))
     refine Ze .plain rfl (D_loadO (g:=tH) Tryz.isAgg49 Tryz.sizeOf49 rfl b355 fun aM bM=>?_)
     refine Ze .plain rfl (D_buildSlice (g:=tH) 3085 (xs:=([(⟨(w64 ((1:Int) + r8)),l9,(w64 ((1:Int) + i6)),0,(w64 ((w64 (x5 + (w64 ((w64 ((1:Int) + i6)) + (l5).Change)))) + aB))⟩:LoomOrder)]:List LoomOrder)) (vs:=[aM]) Tryz.underlying31 Tryz.sizeOf49 Tryz.zeroValue49 rfl rfl (.cons rfl .nil) (RVs.cons bM RVs.nil) rfl rfl fun cM yN zN hs o357 dM hxt hfl=>?_)
     have hfr:=hfr.stp hs
     have u3:=u3.stp hs
     have u6_0_219:=u6_0_219.stp hs rfl
     have x6:=x6.stp hs rfl
     have u8_0_219:=u8_0_219.stp hs rfl
     have t5:=t5.stp hs rfl
     have i7:=i7.stp hs
     have m7:=m7.stp hs rfl
     obtain ⟨lG,vK,h⟩:=bsome h
     refine Ze .plain rfl (D_append (g:=cM) (i:=3018) Tryz.underlying31 info_49 rfl rfl m7 i7 rfl dM vK fun eM aO uH hs o358 iM _=>?_)
     have hfr:=hfr.stp hs
     have u3:=u3.stp hs
     have u6_0_219:=u6_0_219.stp hs rfl
     have x6:=x6.stp hs rfl
     have u8_0_219:=u8_0_219.stp hs rfl
     have t5:=t5.stp hs rfl
     refine Zg uH rfl rfl ?_
     refine Zb (blk_n ?_)
     obtain ⟨rfl,rfl⟩:=pairs2 h
     exact hQ _ _ ⟨eM,(uH),hfr,u9,u3,lH,x6,u6_0_219,uD,t5,u8_0_219,rfl,iM,o358,rfl,n8⟩
    ·clear hx
     obtain ⟨jM,xH,hfr,yH,zH,aI,bI,u6_0_360,dI,iI,u8_0_360,jI,kI,lI,bG,cG⟩:=hR
     refine Za (Zo cG rfl ?_)
     refine EL_in (.int .i64 ((w64 (o0 + (1:Int))))) rfl rfl rfl rfl ?_
     refine Zg (.int .i64 ((w64 (o0 + (1:Int))))) rfl rfl ?_
     exact Zb (Zd (cK (n9,z9,(w64 (o0 + (1:Int)))) _ _ ⟨jM,(xH),hfr,yH,zH,aI,bI,u6_0_360,dI,iI,u8_0_360,jI,kI,lI,bG,rfl⟩ h))
  ·clear hx
   obtain ⟨mI,vD,hfr,xD,nI,u6_0_361,pI,qI,u8_0_361,sI,lB,tM⟩:=hR
   refine Zf (Za (Ze .plain rfl (D_loadO (g:=mI) Tryz.isAgg30 Tryz.sizeOf30 pI qI fun kM mM=>?_)))
   refine Zo sI rfl ?_
   refine Ze .plain rfl (D_storeOc (g:=mI) (v:=kM) Tryz.sizeOf30 xD nI rfl mM fun bO cO hs b363 cb=>?_)
   clear cb
   have hfr:=hfr.stp hs
   have lB:=lB.stp hs
   refine Zg vD rfl rfl ?_
   refine Zb (Zd (E_ret ?_))
   obtain rfl:=sinj h
   obtain ⟨ad364,cv364,hp364,xK,cr364⟩:=ob_read Tryz.isAgg30 Tryz.sizeOf30 b363
   exact endm_ct rfl rfl ((show _=p1 from xD).trans hp364) xK (show _=vD from rfl) ⟨_,hfr,_,_,rfl,cr364,lB⟩
def f7 (x0:List LoomOrder):Option ((List LoomOrder)):=
 (apnd 40 (([]:List LoomOrder)) x0).bind fun y3=>
 some (y3)
theorem en7:Enters Tryz.prog 7:=enters_of Tryz.func7 (by kernel_rfl) rfl
theorem wk7 {gI:Gh} {wI:World} {x0:List LoomOrder} {up0:Value} (rp0:RV gI.m wI x0 up0) {r:(List LoomOrder)} (h:f7 x0=some r):Fn Tryz.prog 7 #[up0] gI wI (fun m w v=>RV m w (r) v):=by
 unfold f7 at h
 refine fn_of_E Tryz.func7 rfl (Nat.le_of_ble_eq_true rfl) fun g0 hm hfr=>?_
 have rp0:RV g0.m wI x0 up0:=hm ▸ rp0
 show E _ 6 none _ _ _ _ _
 refine Zf (Za (Zg (.slice none 0 0) rfl rfl ?_))
 refine Zb (Zd (Zf (Za (Ze .plain rfl (D_buildSlice (g:=g0) 3003 (xs:=([]:List LoomOrder)) (vs:=[]) Tryz.underlying31 Tryz.sizeOf49 Tryz.zeroValue49 rfl rfl .nil RVs.nil rfl rfl fun g1 w1 v1 hs o1 r1 hxt hfl=>?_)))))
 have hfr:=hfr.stp hs
 have rp0:=rp0.stp hs
 refine Zn up0 rfl rfl ?_
 obtain ⟨y3,hy3,h⟩:=bsome h
 refine Ze .plain rfl (D_append (g:=g1) (i:=3003) Tryz.underlying31 info_49 rfl rfl o1 r1 rfl rp0 hy3 fun g2 w2 v2 hs o2 r2 _=>?_)
 have hfr:=hfr.stp hs
 refine Zg v2 rfl rfl ?_
 refine Zb (Zd (E_ret ?_))
 obtain rfl:=sinj h
 exact end1 rfl rfl (show _=v2 from rfl) ⟨_,hfr,r2⟩
def f8 (x0:List Int):Option ((List Int)):=
 (apnd 8 (([]:List Int)) x0).bind fun y3=>
 some (y3)
theorem en8:Enters Tryz.prog 8:=enters_of Tryz.func8 (by kernel_rfl) rfl
theorem wk8 {gI:Gh} {wI:World} {x0:List Int} {up0:Value} (rp0:RV gI.m wI x0 up0) {r:(List Int)} (h:f8 x0=some r):Fn Tryz.prog 8 #[up0] gI wI (fun m w v=>RV m w (r) v):=by
 unfold f8 at h
 refine fn_of_E Tryz.func8 rfl (Nat.le_of_ble_eq_true rfl) fun g0 hm hfr=>?_
 have rp0:RV g0.m wI x0 up0:=hm ▸ rp0
 show E _ 6 none _ _ _ _ _
 refine Zf (Za (Zg (.slice none 0 0) rfl rfl ?_))
 refine Zb (Zd (Zf (Za (Ze .plain rfl (D_buildSlice (g:=g0) 3003 (xs:=([]:List Int)) (vs:=[]) Tryz.underlying28 Tryz.sizeOf3 Tryz.zeroValue3 rfl rfl .nil RVs.nil rfl rfl fun g1 w1 v1 hs o1 r1 hxt hfl=>?_)))))
 have hfr:=hfr.stp hs
 have rp0:=rp0.stp hs
 refine Zn up0 rfl rfl ?_
 obtain ⟨y3,hy3,h⟩:=bsome h
 refine Ze .plain rfl (D_append (g:=g1) (i:=3003) Tryz.underlying28 info_3 rfl rfl o1 r1 rfl rp0 hy3 fun g2 w2 v2 hs o2 r2 _=>?_)
 have hfr:=hfr.stp hs
 refine Zg v2 rfl rfl ?_
 refine Zb (Zd (E_ret ?_))
 obtain rfl:=sinj h
 exact end1 rfl rfl (show _=v2 from rfl) ⟨_,hfr,r2⟩
def f13 (x0:LoomMill):Option (LoomMill):=
 (apnd 8 (([]:List Int)) ((x0).Widths)).bind fun y7=>
 some ({ x0 with Widths:=y7 })
theorem en13:Enters Tryz.prog 13:=enters_of Tryz.func13 (by kernel_rfl) rfl
theorem wk13 {gI:Gh} {wI:World} {x0:LoomMill} {up0:Value} (rp0:RV gI.m wI x0 up0) {r:LoomMill} (h:f13 x0=some r):Fn Tryz.prog 13 #[up0] gI wI (fun m w v=>RV m w (r) v):=by
 unfold f13 at h
 refine fn_of_E Tryz.func13 rfl (Nat.le_of_ble_eq_true rfl) fun g0 hm hfr=>?_
 have rp0:RV g0.m wI x0 up0:=hm ▸ rp0
 show E _ 9 none _ _ _ _ _
 refine Zf (Za (Ze .plain rfl (D_boxO (g:=g0) 2001 rfl rp0 fun g1 w1 p1 hs b1=>?_)))
 have hfr:=hfr.stp hs
 refine Ze .plain rfl (D_allocOc (g:=g1) 2002 (⟨[],0⟩:LoomMill) Tryz.zeroValue30 (fun m w=>⟨_,(rep_two rep_nil rep_int),rfl⟩) fun g2 w2 p2 hs b2 cb=>?_)
 have hfr:=hfr.stp hs
 have b1:=b1.stp hs rfl
 have t5:OSF 2002 60200 0 g2 w2 3 30 ([]:List Int) p2:=cb.osf (by rfl)
 clear cb
 refine Zb (Zd (Zf (Za (Ze .plain rfl (D_buildSlice (g:=g2) 3003 (xs:=([]:List Int)) (vs:=[]) Tryz.underlying28 Tryz.sizeOf3 Tryz.zeroValue3 rfl rfl .nil RVs.nil rfl rfl fun g3 w3 v3 hs o3 r3 hxt hfl=>?_)))))
 have hfr:=hfr.stp hs
 have b1:=b1.stp hs rfl
 have b2:=b2.stp hs rfl
 refine EL_p (fPtr p1 0) (Zc at_30_0 rfl (OB.ptr b1)) rfl ?_
 refine Ze .plain rfl (D_loadF (g:=g3) part_LoomMill_0.1 Tryz.isAgg28 Tryz.sizeOf28 rfl b1 fun v5 r5=>?_)
 obtain ⟨y7,o0,h⟩:=bsome h
 refine Ze .plain rfl (D_append (g:=g3) (i:=3003) Tryz.underlying28 info_3 rfl rfl o3 r3 rfl r5 o0 fun g6 w6 v6 hs o6 r6 _=>?_)
 have hfr:=hfr.stp hs
 have b1:=b1.stp hs rfl
 have b2:=b2.stp hs rfl
 refine EL_p (fPtr p1 0) (Zc at_30_0 rfl (OB.ptr b1)) rfl ?_
 refine Ze .plain rfl (D_storeFc (g:=g6) part_LoomMill_0 Tryz.sizeOf28 rfl b1 rfl r6 fun g9 w9 hs b9 rst hos=>?_)
 have x5:=hos _ _ 3003 3 (y7:List Int) (rv_cells1 r6) rfl o6
 clear rst hos
 have hfr:=hfr.stp hs
 have b2:=b2.stp hs rfl
 refine Zb (Zd (Zf (Za (Ze .plain rfl (D_loadO (g:=g9) Tryz.isAgg30 Tryz.sizeOf30 rfl b9 fun u3 l5=>?_)))))
 refine Ze .plain rfl (D_storeOc (g:=g9) (v:=u3) Tryz.sizeOf30 rfl b2 rfl l5 fun i6 x6 hs b11 cb=>?_)
 clear cb
 have hfr:=hfr.stp hs
 refine Zb (Zd (E_ret ?_))
 obtain rfl:=sinj h
 obtain ⟨ad12,cv12,hp12,hl12,cr12⟩:=ob_read Tryz.isAgg30 Tryz.sizeOf30 b11
 exact endm_c rfl rfl ((show _=p2 from rfl).trans hp12) hl12 ⟨_,hfr,cr12⟩
def f16 (x0:Vector UInt8 4):Option (PayList):=
 (idx (x0).toList (0:Int)).bind fun y3=>
 (idx (x0).toList (1:Int)).bind fun y7=>
 (rem64 ((y7).toNat:Int) (60:Int)).bind fun o0=>
 (idx (x0).toList (0:Int)).bind fun y11=>
 (idx (x0).toList (2:Int)).bind fun u3=>
 (idx (x0).toList (3:Int)).bind fun t5=>
 (idx (x0).toList (1:Int)).bind fun x6=>
 (rem64 (w64 ((4:Int) * ((x6).toNat:Int))) (1001:Int)).bind fun x5=>
 some ((⟨([(⟨0,((y3).toNat:Int)⟩:PayRate),(⟨(w64 ((1:Int) + o0)),(w64 (((y11).toNat:Int) + ((u3).toNat:Int)))⟩:PayRate)]:List PayRate),[],((t5).toNat:Int),x5⟩:PayList))
theorem en16:Enters Tryz.prog 16:=enters_of Tryz.func16 (by kernel_rfl) rfl
theorem wk16 {gI:Gh} {wI:World} {x0:Vector UInt8 4} {up0:Value} (rp0:RV gI.m wI x0 up0) {r:PayList} (h:f16 x0=some r):Fn Tryz.prog 16 #[up0] gI wI (fun m w v=>RV m w (r) v):=by
 unfold f16 at h
 refine fn_of_E Tryz.func16 rfl (Nat.le_of_ble_eq_true rfl) fun g0 hm hfr=>?_
 have rp0:RV g0.m wI x0 up0:=hm ▸ rp0
 show E _ 30 none _ _ _ _ _
 refine Zf (Za (Ze .plain rfl (D_box (g:=g0) rfl rp0 fun g1 w1 p1 hs q1=>?_)))
 have hfr:=hfr.ext hs
 refine Ze .plain rfl (D_allocOc (g:=g1) 2002 (⟨[],[],0,0⟩:PayList) Tryz.zeroValue59 (fun m w=>⟨_,(rep_two rep_nil (rep_two rep_nil (rep_two rep_int rep_int))),rfl⟩) fun g2 w2 p2 hs b2 cb=>?_)
 have hfr:=hfr.stp hs
 have q1:=q1.stp hs
 have cC:OSF 2002 60200 0 g2 w2 148 59 ([]:List PayRate) p2:=cb.osf (by rfl)
 have mC:OSF 2002 60201 1 g2 w2 3 59 ([]:List Int) p2:=cb.osf (by rfl)
 clear cb
 refine Zb (Zd (Zf (Za ?_)))
 obtain ⟨y3,hy3,h⟩:=bsome h
 refine EL_p (fPtr p1 (((0:Int):Int).toNat * 1)) (P_indexAddrA (α:=UInt8) Tryz.underlying55 Tryz.sizeOf5 rfl (PT.ptr q1) rfl hy3) rfl ?_
 have q4:=PT_idxA q1 hy3
 refine Ze .plain rfl (D_load (g:=g2) Tryz.isAgg5 Tryz.sizeOf5 rfl q4 fun v5 r5=>?_)
 obtain rfl:=RV_u8.1 r5
 refine EL_p (.int .i64 (((y3).toNat:Int))) (P_u8int Tryz.underlying5 Tryz.underlying3 rfl) rfl ?_
 have r6:RV g2.m w2 (⟨0,((y3).toNat:Int)⟩:PayRate) (.agg (setCh [[.int .i64 0],[.int .i64 0]] [(1,.int .i64 (((y3).toNat:Int)))]).flatten.toArray):=RV_build rfl (rep_pair (rep_int) (rep_last (rfl)))
 generalize bA:(Value.agg (setCh [[.int .i64 0],[.int .i64 0]] [(1,.int .i64 (((y3).toNat:Int)))]).flatten.toArray)=v6 at r6
 refine EL_p v6 (bA ▸ P_build (vs:=[(1,.int .i64 (((y3).toNat:Int)))]) [[.int .i64 0],[.int .i64 0]] lay_148 rfl rfl (.cons rfl .nil) ⟨⟨_,rfl,rfl⟩,trivial⟩) rfl ?_
 obtain ⟨y7,r8,h⟩:=bsome h
 refine EL_p (fPtr p1 (((1:Int):Int).toNat * 1)) (P_indexAddrA (α:=UInt8) Tryz.underlying55 Tryz.sizeOf5 rfl (PT.ptr q1) rfl r8) rfl ?_
 have q8:=PT_idxA q1 r8
 refine Ze .plain rfl (D_load (g:=g2) Tryz.isAgg5 Tryz.sizeOf5 rfl q8 fun v9 r9=>?_)
 obtain rfl:=RV_u8.1 r9
 refine EL_p (.int .i64 (((y7).toNat:Int))) (P_u8int Tryz.underlying5 Tryz.underlying3 rfl) rfl ?_
 obtain ⟨o0,n9,h⟩:=bsome h
 refine EL_p (.int .i64 (o0)) (P_int rfl rfl (congrArg (Option.map (Value.int .i64)) n9)) rfl ?_
 refine EL_in (.int .i64 ((w64 ((1:Int) + o0)))) rfl rfl rfl rfl ?_
 obtain ⟨y11,g8,h⟩:=bsome h
 refine EL_p (fPtr p1 (((0:Int):Int).toNat * 1)) (P_indexAddrA (α:=UInt8) Tryz.underlying55 Tryz.sizeOf5 rfl (PT.ptr q1) rfl g8) rfl ?_
 have iA:=PT_idxA q1 g8
 refine Ze .plain rfl (D_load (g:=g2) Tryz.isAgg5 Tryz.sizeOf5 rfl iA fun qC rA=>?_)
 obtain rfl:=RV_u8.1 rA
 refine EL_p (.int .i64 (((y11).toNat:Int))) (P_u8int Tryz.underlying5 Tryz.underlying3 rfl) rfl ?_
 obtain ⟨u3,k8,h⟩:=bsome h
 refine EL_p (fPtr p1 (((2:Int):Int).toNat * 1)) (P_indexAddrA (α:=UInt8) Tryz.underlying55 Tryz.sizeOf5 rfl (PT.ptr q1) rfl k8) rfl ?_
 have yA:=PT_idxA q1 k8
 refine Ze .plain rfl (D_load (g:=g2) Tryz.isAgg5 Tryz.sizeOf5 rfl yA fun rC aB=>?_)
 obtain rfl:=RV_u8.1 aB
 refine EL_p (.int .i64 (((u3).toNat:Int))) (P_u8int Tryz.underlying5 Tryz.underlying3 rfl) rfl ?_
 refine EL_in (.int .i64 ((w64 (((y11).toNat:Int) + ((u3).toNat:Int))))) rfl rfl rfl rfl ?_
 have v8:RV g2.m w2 (⟨(w64 ((1:Int) + o0)),(w64 (((y11).toNat:Int) + ((u3).toNat:Int)))⟩:PayRate) (.agg (setCh [[.int .i64 0],[.int .i64 0]] [(0,.int .i64 ((w64 ((1:Int) + o0)))),(1,.int .i64 ((w64 (((y11).toNat:Int) + ((u3).toNat:Int)))))]).flatten.toArray):=RV_build rfl (rep_pair (rfl) (rep_last (rfl)))
 generalize u9:(Value.agg (setCh [[.int .i64 0],[.int .i64 0]] [(0,.int .i64 ((w64 ((1:Int) + o0)))),(1,.int .i64 ((w64 (((y11).toNat:Int) + ((u3).toNat:Int)))))]).flatten.toArray)=x8 at v8
 refine EL_p x8 (u9 ▸ P_build (vs:=[(0,.int .i64 ((w64 ((1:Int) + o0)))),(1,.int .i64 ((w64 (((y11).toNat:Int) + ((u3).toNat:Int)))))]) [[.int .i64 0],[.int .i64 0]] lay_148 rfl rfl (.cons rfl (.cons rfl .nil)) ⟨⟨_,rfl,rfl⟩,⟨⟨_,rfl,rfl⟩,trivial⟩⟩) rfl ?_
 refine Ze .plain rfl (D_buildSlice (g:=g2) 3020 (xs:=([(⟨0,((y3).toNat:Int)⟩:PayRate),(⟨(w64 ((1:Int) + o0)),(w64 (((y11).toNat:Int) + ((u3).toNat:Int)))⟩:PayRate)]:List PayRate)) (vs:=[v6,x8]) Tryz.underlying57 Tryz.sizeOf148 Tryz.zeroValue148 rfl rfl (.cons rfl (.cons rfl .nil)) (RVs.cons r6 (RVs.cons v8 RVs.nil)) rfl rfl fun y6 uC l8 hs o18 i7 hxt hfl=>?_)
 have hfr:=hfr.stp hs
 have q1:=q1.stp hs
 have b2:=b2.stp hs rfl
 obtain ⟨t5,m8,h⟩:=bsome h
 refine EL_p (fPtr p1 (((3:Int):Int).toNat * 1)) (P_indexAddrA (α:=UInt8) Tryz.underlying55 Tryz.sizeOf5 rfl (PT.ptr q1) rfl m8) rfl ?_
 have dB:=PT_idxA q1 m8
 refine Ze .plain rfl (D_load (g:=y6) Tryz.isAgg5 Tryz.sizeOf5 rfl dB fun vC iB=>?_)
 obtain rfl:=RV_u8.1 iB
 refine EL_p (.int .i64 (((t5).toNat:Int))) (P_u8int Tryz.underlying5 Tryz.underlying3 rfl) rfl ?_
 obtain ⟨x6,n8,h⟩:=bsome h
 refine EL_p (fPtr p1 (((1:Int):Int).toNat * 1)) (P_indexAddrA (α:=UInt8) Tryz.underlying55 Tryz.sizeOf5 rfl (PT.ptr q1) rfl n8) rfl ?_
 have lB:=PT_idxA q1 n8
 refine Ze .plain rfl (D_load (g:=y6) Tryz.isAgg5 Tryz.sizeOf5 rfl lB fun aD mB=>?_)
 obtain rfl:=RV_u8.1 mB
 refine EL_p (.int .i64 (((x6).toNat:Int))) (P_u8int Tryz.underlying5 Tryz.underlying3 rfl) rfl ?_
 refine EL_in (.int .i64 ((w64 ((4:Int) * ((x6).toNat:Int))))) rfl rfl rfl rfl ?_
 obtain ⟨x5,y9,h⟩:=bsome h
 refine EL_p (.int .i64 (x5)) (P_int rfl rfl (congrArg (Option.map (Value.int .i64)) y9)) rfl ?_
 have a9:RV y6.m _ (⟨([(⟨0,((y3).toNat:Int)⟩:PayRate),(⟨(w64 ((1:Int) + o0)),(w64 (((y11).toNat:Int) + ((u3).toNat:Int)))⟩:PayRate)]:List PayRate),[],((t5).toNat:Int),x5⟩:PayList) (.agg (setCh [[.slice none 0 0],[.slice none 0 0],[.int .i64 0],[.int .i64 0]] [(0,l8),(2,.int .i64 (((t5).toNat:Int))),(3,.int .i64 (x5))]).flatten.toArray):=RV_build rfl (rep_pair (RV.cells i7) (rep_pair (rep_nil) (rep_pair (rfl) (rep_last (rfl)))))
 generalize i6:(Value.agg (setCh [[.slice none 0 0],[.slice none 0 0],[.int .i64 0],[.int .i64 0]] [(0,l8),(2,.int .i64 (((t5).toNat:Int))),(3,.int .i64 (x5))]).flatten.toArray)=d9 at a9
 obtain ⟨nB,oB,l5,_,_⟩:=RV_list i7
 replace l5:=l5.symm
 refine EL_p d9 (i6 ▸ P_build (vs:=[(0,l8),(2,.int .i64 (((t5).toNat:Int))),(3,.int .i64 (x5))]) [[.slice none 0 0],[.slice none 0 0],[.int .i64 0],[.int .i64 0]] lay_59 rfl rfl (.cons rfl (.cons rfl (.cons rfl .nil))) ⟨⟨_,rfl,cells_size i7⟩,⟨⟨_,rfl,rfl⟩,⟨⟨_,rfl,rfl⟩,trivial⟩⟩⟩) rfl ?_
 refine Ze .plain rfl (D_storeOc (g:=y6) (v:=d9) Tryz.sizeOf59 rfl b2 rfl a9 fun k9 l9 hs b27 cb=>?_)
 have yB:OSF 2002 60201 1 k9 l9 3 59 ([]:List Int) p2:=cb.osf (by rw [← i6,← l5]; rfl)
 obtain ⟨tB,vB,m7,_,_⟩:=RV_list i7
 have zB:OSF 2002 3020 0 k9 l9 148 59 (([(⟨0,((y3).toNat:Int)⟩:PayRate),(⟨(w64 ((1:Int) + o0)),(w64 (((y11).toNat:Int) + ((u3).toNat:Int)))⟩:PayRate)]:List PayRate):List PayRate) p2:=cb.osfv (by rw [← i6,m7]; rfl) (o18.stp hs rfl)
 clear cb
 have hfr:=hfr.stp hs
 refine Zb (Zd (E_ret ?_))
 obtain rfl:=sinj h
 obtain ⟨ad28,cv28,hp28,z9,cr28⟩:=ob_read Tryz.isAgg59 Tryz.sizeOf59 b27
 exact endm_c rfl rfl ((show _=p2 from rfl).trans hp28) z9 ⟨_,hfr,cr28⟩
def f19 (x0:PayList):Option (PayList):=
 (apnd 16 (([]:List PayRate)) ((x0).Rates)).bind fun y7=>
 (apnd 8 (([]:List Int)) ((x0).Extras)).bind fun o0=>
 some ({ { x0 with Rates:=y7 } with Extras:=o0 })
theorem en19:Enters Tryz.prog 19:=enters_of Tryz.func19 (by kernel_rfl) rfl
theorem wk19 {gI:Gh} {wI:World} {x0:PayList} {up0:Value} (rp0:RV gI.m wI x0 up0) {r:PayList} (h:f19 x0=some r):Fn Tryz.prog 19 #[up0] gI wI (fun m w v=>RV m w (r) v):=by
 unfold f19 at h
 refine fn_of_E Tryz.func19 rfl (Nat.le_of_ble_eq_true rfl) fun g0 hm hfr=>?_
 have rp0:RV g0.m wI x0 up0:=hm ▸ rp0
 show E _ 14 none _ _ _ _ _
 refine Zf (Za (Ze .plain rfl (D_boxO (g:=g0) 2001 rfl rp0 fun g1 w1 p1 hs b1=>?_)))
 have hfr:=hfr.stp hs
 refine Ze .plain rfl (D_allocOc (g:=g1) 2002 (⟨[],[],0,0⟩:PayList) Tryz.zeroValue59 (fun m w=>⟨_,(rep_two rep_nil (rep_two rep_nil (rep_two rep_int rep_int))),rfl⟩) fun g2 w2 p2 hs b2 cb=>?_)
 have hfr:=hfr.stp hs
 have b1:=b1.stp hs rfl
 have d9:OSF 2002 60200 0 g2 w2 148 59 ([]:List PayRate) p2:=cb.osf (by rfl)
 have k9:OSF 2002 60201 1 g2 w2 3 59 ([]:List Int) p2:=cb.osf (by rfl)
 clear cb
 refine Zb (Zd (Zf (L_loadO (x:=.tmp 4) part_PayList_0.1 Tryz.isAgg57 Tryz.sizeOf57 b1 fun v5 r5 m7=>?_)))
 obtain ⟨y7,g8,h⟩:=bsome h
 refine L_loadO (x:=.tmp 8) part_PayList_1.1 Tryz.isAgg28 Tryz.sizeOf28 b1 fun k8 l8 x6=>?_
 obtain ⟨o0,y6,h⟩:=bsome h
 refine E_drawL (g:=g2) (n:=9) [(0,(fun v g w=>RV g.m w ([]:List PayRate) v∧OS 3003 g w 148 ([]:List PayRate) v∧FullV v)),(3,(fun v g w=>RV g.m w y7 v∧OS 3003 g w 148 y7 v)),(4,(fun v g w=>RV g.m w ([]:List Int) v∧OS 3007 g w 3 ([]:List Int) v∧FullV v)),(7,(fun v g w=>RV g.m w o0 v∧OS 3007 g w 3 o0 v))] [0,1,2,3,4,5,6,7,8] rfl mixed (by kernel_rfl) (⟨fun _=>up_and up_rv (up_and up_os (up_eq _)),fun _=>up_and up_rv up_os,fun _=>up_and up_rv (up_and up_os (up_eq _)),fun _=>up_and up_rv up_os,trivial⟩) ?_
 refine L_do (φ:=fun v g w=>RV g.m w ([]:List PayRate) v∧OS 3003 g w 148 ([]:List PayRate) v∧FullV v) rfl rfl .plain (fun g w hd=>D_buildSlice (g:=g) 3003 (xs:=([]:List PayRate)) (vs:=[]) Tryz.underlying57 Tryz.sizeOf148 Tryz.zeroValue148 rfl rfl .nil RVs.nil rfl rfl fun g' w' v hs o r hxt hfl=>⟨g',hxt,r,o,hfl⟩) (fun v3 hv=>?_)
 clear hv
 refine L_p (fPtr p1 0) rfl rfl (Zc at_59_0 rfl (OB.ptr b1)) ?_
 refine L_ld (c:=v5) rfl rfl .plain (fun _ _ h=>⟨h.ch,fun b hb _=>h.below.block b hb⟩) m7 rfl ?_
 refine L_do (φ:=fun v g w=>RV g.m w y7 v∧OS 3003 g w 148 y7 v) rfl rfl .plain (fun g w hd=>D_append (g:=g) (i:=3003) Tryz.underlying57 info_148 rfl rfl (word (A:=fun g w=>RV g.m w ([]:List PayRate) v3∧OS 3003 g w 148 ([]:List PayRate) v3∧FullV v3) 0 rfl rfl (deps_of hd)).2.1 (word (A:=fun g w=>RV g.m w ([]:List PayRate) v3∧OS 3003 g w 148 ([]:List PayRate) v3∧FullV v3) 0 rfl rfl (deps_of hd)).1 rfl (r5.ext hd.1) g8 fun g' w' v hs o r hf=>⟨g',hf (word (A:=fun g w=>RV g.m w ([]:List PayRate) v3∧OS 3003 g w 148 ([]:List PayRate) v3∧FullV v3) 0 rfl rfl (deps_of hd)).2.2,r,o⟩) (fun v6 hv=>?_)
 clear hv
 refine L_do (φ:=fun v g w=>RV g.m w ([]:List Int) v∧OS 3007 g w 3 ([]:List Int) v∧FullV v) rfl rfl .plain (fun g w hd=>D_buildSlice (g:=g) 3007 (xs:=([]:List Int)) (vs:=[]) Tryz.underlying28 Tryz.sizeOf3 Tryz.zeroValue3 rfl rfl .nil RVs.nil rfl rfl fun g' w' v hs o r hxt hfl=>⟨g',hxt,r,o,hfl⟩) (fun v8 hv=>?_)
 clear hv
 refine L_p (fPtr p1 1) rfl rfl (Zc at_59_1 rfl (OB.ptr b1)) ?_
 refine L_ld (c:=k8) rfl rfl .plain (fun _ _ h=>⟨h.ch,fun b hb _=>h.below.block b hb⟩) x6 rfl ?_
 refine L_do (φ:=fun v g w=>RV g.m w o0 v∧OS 3007 g w 3 o0 v) rfl rfl .plain (fun g w hd=>D_append (g:=g) (i:=3007) Tryz.underlying28 info_3 rfl rfl (word (A:=fun g w=>RV g.m w ([]:List Int) v8∧OS 3007 g w 3 ([]:List Int) v8∧FullV v8) 4 rfl rfl (deps_of hd)).2.1 (word (A:=fun g w=>RV g.m w ([]:List Int) v8∧OS 3007 g w 3 ([]:List Int) v8∧FullV v8) 4 rfl rfl (deps_of hd)).1 rfl (l8.ext hd.1) y6 fun g' w' v hs o r hf=>⟨g',hf (word (A:=fun g w=>RV g.m w ([]:List Int) v8∧OS 3007 g w 3 ([]:List Int) v8∧FullV v8) 4 rfl rfl (deps_of hd)).2.2,r,o⟩) (fun u3 hv=>?_)
 clear hv
 refine L_p (fPtr p1 0) rfl rfl (Zc at_59_0 rfl (OB.ptr b1)) ?_
 refine L_nil fun m8 l9 hall=>?_
 have hs:=hall.1
 have hfr:=hfr.ext hs
 have b1:=b1.ext hs
 have b2:=b2.ext hs
 have n9:=(word_all (A:=fun g w=>RV g.m w ([]:List PayRate) v3∧OS 3003 g w 148 ([]:List PayRate) v3∧FullV v3) 0 rfl hall).1
 have o18:=(word_all (A:=fun g w=>RV g.m w ([]:List PayRate) v3∧OS 3003 g w 148 ([]:List PayRate) v3∧FullV v3) 0 rfl hall).2.1
 have x5:=(word_all (A:=fun g w=>RV g.m w y7 v6∧OS 3003 g w 148 y7 v6) 3 rfl hall).1
 have o21:=(word_all (A:=fun g w=>RV g.m w y7 v6∧OS 3003 g w 148 y7 v6) 3 rfl hall).2
 have u9:=(word_all (A:=fun g w=>RV g.m w ([]:List Int) v8∧OS 3007 g w 3 ([]:List Int) v8∧FullV v8) 4 rfl hall).1
 have o22:=(word_all (A:=fun g w=>RV g.m w ([]:List Int) v8∧OS 3007 g w 3 ([]:List Int) v8∧FullV v8) 4 rfl hall).2.1
 have l5:=(word_all (A:=fun g w=>RV g.m w o0 u3∧OS 3007 g w 3 o0 u3) 7 rfl hall).1
 have o25:=(word_all (A:=fun g w=>RV g.m w o0 u3∧OS 3007 g w 3 o0 u3) 7 rfl hall).2
 clear hs hall
 refine Ze .plain rfl (D_storeFc (g:=m8) part_PayList_0 Tryz.sizeOf57 rfl b1 rfl x5 fun n8 y9 hs b27 rst hos=>?_)
 have t5:=hos _ _ 3003 148 (y7:List PayRate) (rv_cells1 x5) rfl o21
 clear rst hos
 have hfr:=hfr.stp hs
 have b2:=b2.stp hs rfl
 have l5:=l5.stp hs
 have o25:=o25.stp hs rfl
 refine EL_p (fPtr p1 1) (Zc at_59_1 rfl (OB.ptr b27)) rfl ?_
 refine Ze .plain rfl (D_storeFc (g:=n8) part_PayList_1 Tryz.sizeOf28 rfl b27 rfl l5 fun i6 w29 hs b29 rst hos=>?_)
 have t5:=t5.rest hs rst
 have a9:=hos _ _ 3007 3 (o0:List Int) (rv_cells1 l5) rfl o25
 clear rst hos
 have hfr:=hfr.stp hs
 have b2:=b2.stp hs rfl
 refine Zb (Zd (Zf (Za (Ze .plain rfl (D_loadO (g:=i6) Tryz.isAgg59 Tryz.sizeOf59 rfl b29 fun r8 x8=>?_)))))
 refine Ze .plain rfl (D_storeOc (g:=i6) (v:=r8) Tryz.sizeOf59 rfl b2 rfl x8 fun z9 bA hs b31 cb=>?_)
 clear cb
 have hfr:=hfr.stp hs
 refine Zb (Zd (E_ret ?_))
 obtain rfl:=sinj h
 obtain ⟨ad32,cv32,hp32,i7,cr32⟩:=ob_read Tryz.isAgg59 Tryz.sizeOf59 b31
 exact endm_c rfl rfl ((show _=p2 from rfl).trans hp32) i7 ⟨_,hfr,cr32⟩
def f23 (x0:List Int) (x1:List Int):Option (Bool):=
 jn (σ:=Unit) (fun _=>
  jn (σ:=Unit) (fun _=>
   some (true)
   ) fun k53=>
  lp (σ:=Int) (fun k54 o0=>
   jn (σ:=Unit) (fun _=>
    jn (σ:=Unit) (fun _=>
     k54 ((w64 (o0 + (1:Int))))
     ) fun n9=>
    (idx x0 o0).bind fun x6=>
    (idx x1 o0).bind fun y6=>
    bif (x6 != y6) then
     some (false)
    else
     n9 ()
    ) fun k57=>
   bif (decide (o0 < ((x0).length : Int))) then
    k57 ()
   else
    k53 ()
   ) big ((0:Int))
  ) fun k2=>
 bif (((x0).length : Int) != ((x1).length : Int)) then
  some (false)
 else
  k2 ()
theorem en23:Enters Tryz.prog 23:=enters_of Tryz.func23 (by kernel_rfl) rfl
theorem wk23 {gI:Gh} {wI:World} {x0:List Int} {x1:List Int} {up0:Value} (rp0:RV gI.m wI x0 up0) {up1:Value} (rp1:RV gI.m wI x1 up1) {r:Bool} (h:f23 x0 x1=some r):Fn Tryz.prog 23 #[up0,up1] gI wI (fun _ _ v=>v=.bool (r)):=by
 unfold f23 at h
 refine fn_of_E Tryz.func23 rfl (Nat.le_of_ble_eq_true rfl) fun g0 hm hfr=>?_
 have rp0:RV g0.m wI x0 up0:=hm ▸ rp0
 have rp1:RV g0.m wI x1 up1:=hm ▸ rp1
 show E _ 26 none _ _ _ _ _
 refine Zf (Za (Zg (.bool false) rfl rfl ?_))
 refine Zb (Zd (Zq h (fun (s:Unit) e w=>∃ (g:Gh) ,Fr gI wI g w∧e 0=up0∧RV g.m w (x0:List Int) up0∧e 1=up1∧RV g.m w (x1:List Int) up1) (fun X2 k2 hk2 h=>?_) ?_))
 ·refine Zf (Za (Zn up0 rfl rfl ?_))
  refine EL_p (.int .i64 ((x0).length:Int)) (P_len Tryz.underlying28 rfl rp0) rfl ?_
  refine Zn up1 rfl rfl ?_
  refine EL_p (.int .i64 ((x1).length:Int)) (P_len Tryz.underlying28 rfl rp1) rfl ?_
  refine EL_in (.bool ((((x0).length:Int) != ((x1).length:Int)))) rfl rfl rfl rfl ?_
  refine Zb (Zd ?_)
  rcases Zt h with ⟨hc3,h⟩ | ⟨hc3,h⟩
  ·refine E_ct hc3 rfl ?_
   refine Zf (Za (Zg (.bool false) rfl rfl ?_))
   refine Zb (Zd (E_ret (thn_r ?_)))
   obtain rfl:=sinj h
   exact end1 rfl rfl (show _=.bool false from rfl) ⟨_,hfr,rfl⟩
  ·refine E_cf hc3 rfl ?_
   exact Zu (Zd (hk2 () _ _ ⟨g0,hfr,rfl,rp0,rfl,rp1⟩ h))
 ·rintro _ bD w4 ⟨g4, hfr, y9, z9, bA, iA⟩ h
  refine Zq h (fun (s:Unit) e w=>∃ (g:Gh) ,Fr gI wI g w) (fun X53 k53 rA h=>?_) ?_
  ·refine Zf (Za (Zg (.int .i64 (0)) rfl rfl ?_))
   refine Zb (Zd (Zr ?_))
   refine E_lp h (fun (s:Int) e w=>∃ (g:Gh) ,Fr gI wI g w∧e 0=up0∧RV g.m w (x0:List Int) up0∧e 1=up1∧RV g.m w (x1:List Int) up1∧e 5=.int .i64 (s)) ⟨g4,hfr,y9,z9,bA,iA,rfl⟩ (fun X54 k54 yA=>?_)
   rintro o0 qC cD ⟨u9,hfr,i7,m7,k9,l9,g8⟩ h
   refine Zq h (fun (s:Unit) e w=>∃ (g:Gh) ,Fr gI wI g w∧e 0=up0∧RV g.m w (x0:List Int) up0∧e 1=up1∧RV g.m w (x1:List Int) up1∧e 5=.int .i64 (o0)) (fun X57 k57 aB h=>?_) ?_
   ·refine Zf (Za (Zo g8 rfl ?_))
    refine Zo i7 rfl ?_
    refine EL_p (.int .i64 ((x0).length:Int)) (P_len Tryz.underlying28 rfl m7) rfl ?_
    refine EL_in (.bool ((decide (o0 < ((x0).length:Int))))) rfl rfl rfl rfl ?_
    refine Zb (Zd ?_)
    rcases Zt h with ⟨i6,h⟩ | ⟨i6,h⟩
    ·refine E_ct i6 rfl ?_
     exact Zu (Zd (aB () _ _ ⟨u9,hfr,i7,m7,k9,l9,g8⟩ h))
    ·refine E_cf i6 rfl ?_
     refine E_exit ?_
     refine thn_e ?_
     refine thn_e ?_
     refine blk_hit ?_
     exact Zd (rA () _ _ ⟨u9,hfr⟩ h)
   ·rintro _ rC eD ⟨nB, hfr, k8, u3, l8, l5, t5⟩ h
    refine Zq h (fun (s:Unit) e w=>∃ (g:Gh) ,Fr gI wI g w∧e 0=up0∧RV g.m w (x0:List Int) up0∧e 1=up1∧RV g.m w (x1:List Int) up1∧e 5=.int .i64 (o0)) (fun X81 n9 dB h=>?_) ?_
    ·refine Zr ?_
     refine Zf ?_
     obtain ⟨x6,m8,h⟩:=bsome h
     have oB:=PT_idx u3 m8
     refine Zs (x:=.tmp 19) Tryz.isAgg3 Tryz.sizeOf3 oB fun gD tB iB=>?_
     obtain rfl:=Zj.1 tB
     obtain ⟨y6,n8,h⟩:=bsome h
     have vB:=PT_idx l5 n8
     refine Zs (x:=.tmp 23) Tryz.isAgg3 Tryz.sizeOf3 vB fun iD yB lB=>?_
     obtain rfl:=Zj.1 yB
     refine E_drawL (g:=nB) (n:=9) [] [0,1,2,3,4,5,6,7,8] rfl mixed (by kernel_rfl) trivial ?_
     refine L_p up0 rfl rfl (Zk k8) ?_
     refine L_p (.int .i64 (o0)) rfl rfl (Zk t5) ?_
     refine L_p (ePtr up0 o0 1) rfl rfl (Zh (α:=Int) Tryz.underlying28 Tryz.sizeOf3 rfl u3 rfl m8) ?_
     refine L_ld (c:=.int .i64 (x6)) rfl rfl .plain (fun _ _ h=>h.ch) iB rfl ?_
     refine L_p up1 rfl rfl (Zk l8) ?_
     refine L_p (.int .i64 (o0)) rfl rfl (Zk t5) ?_
     refine L_p (ePtr up1 o0 1) rfl rfl (Zh (α:=Int) Tryz.underlying28 Tryz.sizeOf3 rfl l5 rfl n8) ?_
     refine L_ld (c:=.int .i64 (y6)) rfl rfl .plain (fun _ _ h=>h.ch) lB rfl ?_
     refine L_p (.bool ((x6 != y6))) rfl rfl (P_int rfl rfl rfl) ?_
     refine L_nl fun zB jD hs=>?_
     have hfr:=hfr.ext hs
     have u3:=u3.ext hs
     have l5:=l5.ext hs
     clear hs
     refine Zb (Zd ?_)
     rcases Zt h with ⟨x5,h⟩ | ⟨x5,h⟩
     ·refine E_ct x5 rfl ?_
      refine Zf (Za (Zg (.bool false) rfl rfl ?_))
      refine Zb (Zd (E_ret (blk_r ?_)))
      refine thn_r ?_
      refine thn_r ?_
      refine blk_r ?_
      refine thn_r ?_
      obtain rfl:=sinj h
      exact end1 rfl rfl (show _=.bool false from rfl) ⟨_,hfr,rfl⟩
     ·refine E_cf x5 rfl ?_
      exact Zu (blk_n (Zd (dB () _ _ ⟨zB,hfr,k8,u3,l8,l5,t5⟩ h)))
    ·rintro _ cC uC ⟨mB, hfr, r8, v8, x8, a9, d9⟩ h
     refine Za (Zo d9 rfl ?_)
     refine EL_in (.int .i64 ((w64 (o0 + (1:Int))))) rfl rfl rfl rfl ?_
     refine Zg (.int .i64 ((w64 (o0 + (1:Int))))) rfl rfl ?_
     exact Zb (Zd (yA ((w64 (o0 + (1:Int)))) _ _ ⟨mB,hfr,r8,v8,x8,a9,rfl⟩ h))
  ·rintro _ mC vC ⟨aD, hfr⟩ h
   refine Zf (Za (Zg (.bool true) rfl rfl ?_))
   refine Zb (Zd (E_ret ?_))
   obtain rfl:=sinj h
   exact end1 rfl rfl (show _=.bool true from rfl) ⟨_,hfr,rfl⟩
def f51 (x0:LoomLoomMill):Option (Int):=
 (shl64 (1:Int) (((x0).orders).length:Int)).bind fun y4=>
 some ((w64 (y4 - (1:Int))))
theorem en51:Enters Tryz.prog 51:=enters_of Tryz.func51 (by kernel_rfl) rfl
theorem wk51 {gI:Gh} {wI:World} {x0:LoomLoomMill} {up0:Value} (rp0:RV gI.m wI x0 up0) {r:Int} (h:f51 x0=some r):Fn Tryz.prog 51 #[up0] gI wI (fun _ _ v=>v=.int .i64 (r)):=by
 unfold f51 at h
 refine fn_of_E Tryz.func51 rfl (Nat.le_of_ble_eq_true rfl) fun g0 hm hfr=>?_
 have rp0:RV g0.m wI x0 up0:=hm ▸ rp0
 show E _ 8 none _ _ _ _ _
 refine Zf (Za (Ze .plain rfl (D_box (g:=g0) rfl rp0 fun g1 w1 p1 hs q1=>?_)))
 have hfr:=hfr.ext hs
 refine Zg (.int .i64 (0)) rfl rfl ?_
 refine Zb (Zd (Zf (Za (EL_p (fPtr p1 2) (Zc at_134_1 rfl (PT.ptr q1)) rfl ?_))))
 have q2:=Zm (part_LoomLoomMill_1).1 q1
 refine Ze .plain rfl (D_load (g:=g1) Tryz.isAgg31 Tryz.sizeOf31 rfl q2 fun v3 r3=>?_)
 refine EL_p (.int .i64 (((x0).orders).length:Int)) (P_len Tryz.underlying31 rfl r3) rfl ?_
 obtain ⟨y4,o0,h⟩:=bsome h
 refine EL_p (.int .i64 (y4)) (P_int rfl rfl (congrArg (Option.map (Value.int .i64)) o0)) rfl ?_
 refine EL_in (.int .i64 ((w64 (y4 - (1:Int))))) rfl rfl rfl rfl ?_
 refine Zg (.int .i64 ((w64 (y4 - (1:Int))))) rfl rfl ?_
 refine Zb (Zd (E_ret ?_))
 obtain rfl:=sinj h
 exact end1 rfl rfl (show _=.int .i64 ((w64 (y4 - (1:Int)))) from rfl) ⟨_,hfr,rfl⟩
def f58 (x0:PayPayList) (x1:Int) (x2:Int):Option (Int):=
 (quo64 (w64 (x1 * ((x0).PayList).Cap)) (1000:Int)).bind fun y8=>
 some ((min64 (w64 (x2 * ((x0).PayList).Fine)) y8))
theorem en58:Enters Tryz.prog 58:=enters_of Tryz.func58 (by kernel_rfl) rfl
theorem wk58 {gI:Gh} {wI:World} {x0:PayPayList} {x1:Int} {x2:Int} {up0:Value} (rp0:RV gI.m wI x0 up0) {r:Int} (h:f58 x0 x1 x2=some r):Fn Tryz.prog 58 #[up0,.int .i64 (x1),.int .i64 (x2)] gI wI (fun _ _ v=>v=.int .i64 (r)):=by
 unfold f58 at h
 refine fn_of_E Tryz.func58 rfl (Nat.le_of_ble_eq_true rfl) fun g0 hm hfr=>?_
 have rp0:RV g0.m wI x0 up0:=hm ▸ rp0
 show E _ 19 none _ _ _ _ _
 refine Zf (Za (Ze .plain rfl (D_box (g:=g0) rfl rp0 fun g1 w1 p1 hs q1=>?_)))
 have hfr:=hfr.ext hs
 refine Zg (.int .i64 (0)) rfl rfl ?_
 refine Zb (Zd (Zf (Za (Zn (.int .i64 (x2)) rfl rfl ?_))))
 refine EL_p (fPtr p1 0) (Zc at_153_0 rfl (PT.ptr q1)) rfl ?_
 have q2:=Zm (part_PayPayList_0).1 q1
 refine EL_p (fPtr (fPtr p1 0) 2) (Zc at_59_2 rfl (PT.ptr q2)) rfl ?_
 have q3:=Zm (part_PayList_2).1 q2
 refine Ze .plain rfl (D_load (g:=g1) Tryz.isAgg3 Tryz.sizeOf3 rfl q3 fun v4 r4=>?_)
 obtain rfl:=Zj.1 r4
 refine EL_in (.int .i64 ((w64 (x2 * ((x0).PayList).Fine)))) rfl rfl rfl rfl ?_
 refine Zn (.int .i64 (x1)) rfl rfl ?_
 refine EL_p (fPtr p1 0) (Zc at_153_0 rfl (PT.ptr q1)) rfl ?_
 have q5:=Zm (part_PayPayList_0).1 q1
 refine EL_p (fPtr (fPtr p1 0) 3) (Zc at_59_3 rfl (PT.ptr q5)) rfl ?_
 have q6:=Zm (part_PayList_3).1 q5
 refine Ze .plain rfl (D_load (g:=g1) Tryz.isAgg3 Tryz.sizeOf3 rfl q6 fun v7 r7=>?_)
 obtain rfl:=Zj.1 r7
 refine EL_in (.int .i64 ((w64 (x1 * ((x0).PayList).Cap)))) rfl rfl rfl rfl ?_
 obtain ⟨y8,o0,h⟩:=bsome h
 refine EL_p (.int .i64 (y8)) (P_int rfl rfl (congrArg (Option.map (Value.int .i64)) o0)) rfl ?_
 refine EL_p (.int .i64 (min64 (w64 (x2 * ((x0).PayList).Fine)) y8)) (P_min rfl rfl) rfl ?_
 refine Zg (.int .i64 (min64 (w64 (x2 * ((x0).PayList).Fine)) y8)) rfl rfl ?_
 refine Zb (Zd (E_ret ?_))
 obtain rfl:=sinj h
 exact end1 rfl rfl (show _=.int .i64 (min64 (w64 (x2 * ((x0).PayList).Fine)) y8) from rfl) ⟨_,hfr,rfl⟩
def f74 (x0:List Int):Option (Int × Int):=
 Option.bind (α:=Int × Int) (
  lp (σ:=Int × Int × Int) (fun z9 (i7,u3,o0)=>
   bif (decide (o0 < ((x0).length : Int))) then
    Option.bind (α:=Int × Int) (
     (idx x0 o0).bind fun l8=>
     bif (l8 != (0 : Int)) then
      some (o0,(w64 (u3 + (1:Int))))
     else
      some (i7,u3)
     ) fun (i6,x6)=>
    z9 (i6,x6,(w64 (o0 + (1:Int))))
   else
    some (i7,u3)
   ) big ((0:Int),(0:Int),(0:Int))
  ) fun (l5,t5)=>
 some (l5,t5)
theorem en74:Enters Tryz.prog 74:=enters_of Tryz.func74 (by kernel_rfl) rfl
theorem wk74 {gI:Gh} {wI:World} {x0:List Int} {up0:Value} (rp0:RV gI.m wI x0 up0) {r:Int × Int} (h:f74 x0=some r):Fn Tryz.prog 74 #[up0] gI wI (fun m w v=>∃ y0 y1,v=.tuple #[y0,y1]∧y0=.int .i64 (r.1)∧y1=.int .i64 (r.2)):=by
 unfold f74 at h
 refine fn_of_E Tryz.func74 rfl (Nat.le_of_ble_eq_true rfl) fun g0 hm hfr=>?_
 have rp0:RV g0.m wI x0 up0:=hm ▸ rp0
 show E _ 21 none _ _ _ _ _
 refine Zf (Za (Zg (.int .i64 (0)) rfl rfl ?_))
 refine Zg (.int .i64 (0)) rfl rfl ?_
 refine Zb (Zd ?_)
 obtain ⟨⟨l5,t5⟩,hx,h⟩:=bsome h
 refine E_join (fun e w=>∃ (g:Gh) ,Fr gI wI g w∧e 2=.int .i64 (l5)∧e 3=.int .i64 (t5)) (fun Q' hQ=>?_) (fun aB lB hR=>?_)
 ·replace h := hx
  clear hx
  refine Zf (Za (Zn up0 rfl rfl ?_))
  refine EL_p (.int .i64 ((x0).length:Int)) (P_len Tryz.underlying28 rfl rp0) rfl ?_
  refine Zn (.int .i64 (0)) rfl rfl ?_
  refine Zb (Zd (Zr ?_))
  refine E_lp h (fun (s:Int × Int × Int) e w=>∃ (g:Gh) ,Fr gI wI g w∧e 2=.int .i64 (s.1)∧e 3=.int .i64 (s.2.1)∧e 6=up0∧RV g.m w (x0:List Int) up0∧e 7=.int .i64 (((x0).length:Int))∧e 8=.int .i64 (s.2.2)) ⟨g0,hfr,rfl,rfl,rfl,rp0,rfl,rfl⟩ (fun X13 z9 bA=>?_)
  rintro ⟨i7,u3,o0⟩ dB mB ⟨r8,hfr,v8,m7,g8,y6,k8,x5⟩ h
  refine Zf (Za (EL_in (.bool ((decide (o0 < ((x0).length:Int))))) x5 k8 rfl rfl ?_))
  refine Zb (Zd (Zf ?_))
  rcases Zt h with ⟨m8,h⟩ | ⟨m8,h⟩
  ·refine E_ct m8 rfl ?_
   refine Zu (Zd ?_)
   obtain ⟨⟨i6,x6⟩,hx,h⟩:=bsome h
   refine E_join (fun e w=>∃ (g:Gh) ,Fr gI wI g w∧e 2=.int .i64 (i6)∧e 3=.int .i64 (x6)∧e 6=up0∧RV g.m w (x0:List Int) up0∧e 7=.int .i64 (((x0).length:Int))∧e 8=.int .i64 (o0)) (fun Q' hQ=>?_) (fun iB nB hR=>?_)
   ·replace h := hx
    clear hx
    refine Zr ?_
    refine Zf (Za (Zo x5 rfl ?_))
    obtain ⟨l8,hy20,h⟩:=bsome h
    refine EL_p (ePtr up0 o0 1) (Zh (α:=Int) Tryz.underlying28 Tryz.sizeOf3 g8 y6 x5 hy20) rfl ?_
    have iA:=PT_idx y6 hy20
    refine Ze .plain rfl (D_load (g:=r8) Tryz.isAgg3 Tryz.sizeOf3 rfl iA fun oB rA=>?_)
    obtain rfl:=Zj.1 rA
    refine Zg (.int .i64 (o0)) rfl rfl ?_
    refine Zg (.int .i64 (l8)) rfl rfl ?_
    refine Zb (Zd (Zf (Za (Zn (.int .i64 (l8)) rfl rfl ?_))))
    refine EL_in (.bool ((l8 != (0:Int)))) rfl rfl rfl rfl ?_
    refine Zb (Zd ?_)
    rcases Zt h with ⟨n8,h⟩ | ⟨n8,h⟩
    ·refine E_ct n8 rfl ?_
     refine Zf (Za (Zn (.int .i64 (o0)) rfl rfl ?_))
     refine Zg (.int .i64 (o0)) rfl rfl ?_
     refine Zb (Zd (Za (Zo m7 rfl ?_)))
     refine EL_in (.int .i64 ((w64 (u3 + (1:Int))))) rfl rfl rfl rfl ?_
     refine Zg (.int .i64 ((w64 (u3 + (1:Int))))) rfl rfl ?_
     refine Zb (blk_n ?_)
     obtain ⟨rfl,rfl⟩:=pairs2 h
     exact hQ _ _ ⟨r8,hfr,rfl,rfl,g8,y6,k8,x5⟩
    ·refine E_cf n8 rfl ?_
     refine Zu (blk_n ?_)
     obtain ⟨rfl,rfl⟩:=pairs2 h
     exact hQ _ _ ⟨r8,hfr,v8,m7,g8,y6,k8,x5⟩
   ·clear hx
    obtain ⟨yA,hfr,x8,a9,d9,k9,l9,n9⟩:=hR
    refine Za (EL_in (.int .i64 ((w64 (o0 + (1:Int))))) n9 rfl rfl rfl ?_)
    refine Zn (.int .i64 ((w64 (o0 + (1:Int))))) rfl rfl ?_
    exact Zb (Zd (bA (i6,x6,(w64 (o0 + (1:Int)))) _ _ ⟨yA,hfr,x8,a9,d9,k9,l9,rfl⟩ h))
  ·refine E_cf m8 rfl ?_
   refine E_exit ?_
   refine thn_e ?_
   refine thn_e ?_
   refine blk_hit ?_
   obtain ⟨rfl,rfl⟩:=pairs2 h
   exact hQ _ _ ⟨r8,hfr,v8,m7⟩
 ·clear hx
  obtain ⟨tB,hfr,u9,y9⟩:=hR
  refine Zf (Za (Zo u9 rfl ?_))
  refine Zo y9 rfl ?_
  refine Zg (.int .i64 (l5)) rfl rfl ?_
  refine Zg (.int .i64 (t5)) rfl rfl ?_
  refine Zb (Zd (E_ret ?_))
  obtain rfl:=sinj h
  exact end2 rfl rfl (show _=.int .i64 (l5) from rfl) (show _=.int .i64 (t5) from rfl) ⟨_,hfr,_,_,rfl,rfl,rfl⟩
def f86 (x0:List (List Int)) (x1:(List Int)→Option Bool):Option (Int):=
 jn (σ:=Unit) (fun _=>
  some ((-1:Int))
  ) fun k18=>
 lp (σ:=Int) (fun k19 o0=>
  bif (decide (o0 < ((x0).length : Int))) then
   jn (σ:=Unit) (fun _=>
    k19 ((w64 (o0 + (1:Int))))
    ) fun k28=>
   (idx x0 o0).bind fun r8=>
   (x1 r8).bind fun v8=>
   bif v8 then
    some (o0)
   else
    k28 ()
  else
   k18 ()
  ) big ((0:Int))
theorem en86:Enters Tryz.prog 86:=enters_of Tryz.func86 (by kernel_rfl) rfl
theorem wk86 {gI:Gh} {wI:World} {x0:List (List Int)} {x1:(List Int)→Option Bool} {up0:Value} (rp0:RV gI.m wI x0 up0) {up1:Value} (rp1:FnV1 Tryz.prog x1 up1 gI wI) {r:Int} (h:f86 x0 x1=some r):Fn Tryz.prog 86 #[up0,up1] gI wI (fun _ _ v=>v=.int .i64 (r)):=by
 unfold f86 at h
 refine fn_of_E Tryz.func86 rfl (Nat.le_of_ble_eq_true rfl) fun g0 hm hfr=>?_
 have rp0:RV g0.m wI x0 up0:=hm ▸ rp0
 obtain ⟨ff1,fa1,fc1,rfl,fen1,fcl1⟩:=rp1
 show E _ 19 none _ _ _ _ _
 refine Zf (Za (Zg (.int .i64 (0)) rfl rfl ?_))
 refine Zb (Zd (Zq h (fun (s:Unit) e w=>∃ (g:Gh) ,Fr gI wI g w) (fun X18 k18 x8 h=>?_) ?_))
 ·refine Zf (Za (Zn up0 rfl rfl ?_))
  refine EL_p (.int .i64 ((x0).length:Int)) (P_len Tryz.underlying35 rfl rp0) rfl ?_
  refine Zn (.int .i64 (0)) rfl rfl ?_
  refine Zb (Zd (Zr ?_))
  refine E_lp h (fun (s:Int) e w=>∃ (g:Gh) ,Fr gI wI g w∧e 0=up0∧RV g.m w (x0:List (List Int)) up0∧e 1=(.func (.func ff1) fa1 fc1)∧e 7=.int .i64 (((x0).length:Int))∧e 8=.int .i64 (s)) ⟨g0,hfr,rfl,rp0,rfl,rfl,rfl⟩ (fun X19 k19 a9=>?_)
  rintro o0 bA yA ⟨i7,hfr,i6,u3,x6,y6,l5⟩ h
  refine Zf (Za (EL_in (.bool ((decide (o0 < ((x0).length:Int))))) l5 y6 rfl rfl ?_))
  refine Zb (Zd (Zf ?_))
  rcases Zt h with ⟨t5,h⟩ | ⟨t5,h⟩
  ·refine E_ct t5 rfl ?_
   refine Zu (Zd (Zq h (fun (s:Unit) e w=>∃ (g:Gh) ,Fr gI wI g w∧e 0=up0∧RV g.m w (x0:List (List Int)) up0∧e 1=(.func (.func ff1) fa1 fc1)∧e 7=.int .i64 (((x0).length:Int))∧e 8=.int .i64 (o0)) (fun X28 k28 d9 h=>?_) ?_))
   ·refine Zr ?_
    refine Zf (Za (Zo l5 rfl ?_))
    refine Zg (.int .i64 (o0)) rfl rfl ?_
    refine Zb (Zd (Zf (Za (Zo x6 rfl ?_))))
    refine Zo i6 rfl ?_
    refine Zn (.int .i64 (o0)) rfl rfl ?_
    obtain ⟨r8,m7,h⟩:=bsome h
    refine EL_p (ePtr up0 o0 1) (Zh (α:=List Int) Tryz.underlying35 Tryz.sizeOf28 rfl u3 rfl m7) rfl ?_
    have l9:=PT_idx u3 m7
    refine Ze .plain rfl (D_load (g:=i7) Tryz.isAgg28 Tryz.sizeOf28 rfl l9 fun n9 u9=>?_)
    obtain ⟨v8,k9,h⟩:=bsome h
    refine Ze .plain rfl (D_callv (g:=i7) (vs:=[n9]) rfl fen1 (.cons rfl .nil) (fcl1 _ _ hfr.ch _ _ _  u9 k9) fun y9 aB dB hs hr=>?_)
    have hfr:=hfr.ext hs
    have u3:=u3.ext hs
    obtain rfl:=RV_bool.1 hr
    refine Zb (Zd ?_)
    rcases Zt h with ⟨x5,h⟩ | ⟨x5,h⟩
    ·refine E_ct x5 rfl ?_
     refine Zf (Za (Zn (.int .i64 (o0)) rfl rfl ?_))
     refine Zg (.int .i64 (o0)) rfl rfl ?_
     refine Zb (Zd (E_ret (blk_r ?_)))
     refine thn_r ?_
     refine thn_r ?_
     refine blk_r ?_
     refine thn_r ?_
     obtain rfl:=sinj h
     exact end1 rfl rfl (show _=.int .i64 (o0) from rfl) ⟨_,hfr,rfl⟩
    ·refine E_cf x5 rfl ?_
     exact Zu (blk_n (Zd (d9 () _ _ ⟨y9,hfr,i6,u3,x6,y6,l5⟩ h)))
   ·rintro _ iA iB ⟨z9, hfr, g8, k8, l8, m8, n8⟩ h
    refine Za (EL_in (.int .i64 ((w64 (o0 + (1:Int))))) n8 rfl rfl rfl ?_)
    refine Zn (.int .i64 ((w64 (o0 + (1:Int))))) rfl rfl ?_
    exact Zb (Zd (a9 ((w64 (o0 + (1:Int)))) _ _ ⟨z9,hfr,g8,k8,l8,m8,rfl⟩ h))
  ·refine E_cf t5 rfl ?_
   refine E_exit ?_
   refine thn_e ?_
   refine thn_e ?_
   refine blk_hit ?_
   exact Zd (x8 () _ _ ⟨i7,hfr⟩ h)
 ·rintro _ rA lB ⟨mB, hfr⟩ h
  refine Zf (Za (Zg (.int .i64 (-1)) rfl rfl ?_))
  refine Zb (Zd (E_ret ?_))
  obtain rfl:=sinj h
  exact end1 rfl rfl (show _=.int .i64 (-1) from rfl) ⟨_,hfr,rfl⟩
def f87 (x1:Int):Option ((List Int)):=
 Option.bind (α:=Unit) (
  bif (decide (x1 < (0 : Int))) then
   none
  else
   some ()
  ) fun (_:Unit)=>
 Option.bind (α:=(List Int)) (
  bif (decide ((w64 (x1 - (w64 (((0 : Nat) : Int) - ((([] : List Int)).length : Int))))) > (0 : Int))) then
   (grwz 8 ((w64 (x1 - (w64 (((0:Nat):Int) - ((([]:List Int)).length:Int))))))).bind fun _=>
   some (([]:List Int))
  else
   some (([]:List Int))
  ) fun l5=>
 some (l5)
theorem en87:Enters Tryz.prog 87:=enters_of Tryz.func87 (by kernel_rfl) rfl
theorem wk87 {iO:Nat} {gI:Gh} {wI:World} {x1:Int}  {r:(List Int)} (h:f87 x1=some r):FnG Tryz.prog 87 #[.slice none 0 0,.int .i64 (x1)] gI wI (fun g w v=>OS iO g w 3 r v∧RV g.m w r v):=by
 unfold f87 at h
 refine fnG_of_E Tryz.func87 rfl (Nat.le_of_ble_eq_true rfl) fun g0 hm hfr=>?_
 show E _ 27 none _ _ _ _ _
 refine Zf (Za (Zg (.slice none 0 0) rfl rfl ?_))
 refine Zb (Zd ?_)
 obtain ⟨_,hx,h⟩:=bsome h
 refine E_join (fun e w=>∃ (g:Gh) ,Fr gI wI g w∧e 0=.slice none 0 0∧RV g.m w (([]:List Int):List Int) (Value.slice none 0 0)∧e 1=.int .i64 (x1)) (fun Q' hQ=>?_) (fun k8 w3 hR=>?_)
 ·replace h := hx
  clear hx
  refine Zf (Za (Zn (.int .i64 (x1)) rfl rfl ?_))
  refine EL_in (.bool ((decide (x1 < (0:Int))))) rfl rfl rfl rfl ?_
  refine Zb (Zd ?_)
  rcases Zt h with ⟨hc2,h⟩ | ⟨hc2,h⟩
  ·refine E_ct hc2 rfl ?_
   refine Za ?_
   cases h
  ·refine E_cf hc2 rfl ?_
   refine Zu ?_
   obtain rfl:=sinj h
   exact hQ _ _ ⟨g0,hfr,rfl,RV_nil,rfl⟩
 ·clear hx
  obtain ⟨g3,hfr,o0,u3,x5⟩:=hR
  obtain ⟨l5,hx,h⟩:=bsome h
  refine E_join (fun e w=>∃ (g:Gh) (v0:Value),Fr gI wI g w∧e 0=v0∧RV g.m w (l5:List Int) v0∧OS 4022 g w 3 (l5:List Int) v0) (fun Q' hQ=>?_) (fun l8 w8 hR=>?_)
  ·replace h := hx
   clear hx
   refine Zf (Za (Zo x5 rfl ?_))
   refine Zo o0 rfl ?_
   refine EL_p (.int .i64 ((0:Nat):Int)) (P_cap Tryz.underlying28 rfl) rfl ?_
   refine Zo o0 rfl ?_
   refine EL_p (.int .i64 ((([]:List Int)).length:Int)) (P_len Tryz.underlying28 rfl u3) rfl ?_
   refine EL_p (.int .i64 ((w64 (((0:Nat):Int) - ((([]:List Int)).length:Int))))) (P_int rfl rfl rfl) rfl ?_
   refine EL_p (.int .i64 ((w64 (x1 - (w64 (((0:Nat):Int) - ((([]:List Int)).length:Int))))))) (P_int rfl rfl rfl) rfl ?_
   refine EL_p (.int .i64 ((w64 (x1 - (w64 (((0:Nat):Int) - ((([]:List Int)).length:Int))))))) (P_assign rfl) rfl ?_
   refine Zb (Zd (Zf (Za (EL_p (.int .i64 ((w64 (x1 - (w64 (((0:Nat):Int) - ((([]:List Int)).length:Int))))))) (Zk rfl) rfl ?_))))
   refine EL_p (.bool ((decide ((w64 (x1 - (w64 (((0:Nat):Int) - ((([]:List Int)).length:Int))))) > (0:Int))))) (P_int rfl rfl rfl) rfl ?_
   refine Zb (Zd ?_)
   rcases Zt h with ⟨hc6,h⟩ | ⟨hc6,h⟩
   ·refine E_ct hc6 rfl ?_
    refine Za (Zo o0 rfl ?_)
    refine Zo o0 rfl ?_
    refine EL_p (.int .i64 ((0:Nat):Int)) (P_cap Tryz.underlying28 rfl) rfl ?_
    refine EL_p (.slice none 0 0) (P_cutN Tryz.underlying28 Tryz.sizeOf3 rfl rfl (fun p hp=>by cases hp)) rfl ?_
    refine EL_p (.int .i64 ((w64 (x1 - (w64 (((0:Nat):Int) - ((([]:List Int)).length:Int))))))) (Zk rfl) rfl ?_
    obtain ⟨y7,i7,h⟩:=bsome h
    refine Ze .plain rfl (D_growZ (g:=g3) (α:=Int) 4022 Tryz.underlying28 Tryz.underlying3 info_3 rfl (Nat.le_of_ble_eq_true rfl) rfl rfl i7 fun g7 w7 b7 c7 m7 hs o7 r7=>?_)
    have hfr:=hfr.stp hs
    have u3:=u3.stp hs
    refine Zo o0 rfl ?_
    refine EL_p (.int .i64 ((([]:List Int)).length:Int)) (P_len Tryz.underlying28 rfl u3) rfl ?_
    refine EL_p ((.slice (some ⟨b7,0,none⟩) 0 c7)) (P_cutN Tryz.underlying28 Tryz.sizeOf3 rfl rfl (fun p hp=>by cases hp; rfl)) rfl ?_
    refine Zg ((.slice (some ⟨b7,0,none⟩) 0 c7)) rfl rfl ?_
    refine Zb ?_
    obtain rfl:=sinj h
    exact hQ _ _ ⟨g7,((.slice (some ⟨b7,0,none⟩) 0 c7)),hfr,rfl,r7,o7⟩
   ·refine E_cf hc6 rfl ?_
    refine Zu ?_
    obtain rfl:=sinj h
    exact hQ _ _ ⟨g3,(.slice none 0 0),hfr,o0,u3,OS.nil⟩
  ·clear hx
   obtain ⟨g8,t5,hfr,i6,x6,y6⟩:=hR
   refine Zf (Za (Zo i6 rfl ?_))
   refine Zg t5 rfl rfl ?_
   refine Zb (Zd (E_ret ?_))
   obtain rfl:=sinj h
   obtain ⟨gh,hxh,homh,hrvh⟩:=OS.handn (i:=iO) hfr y6 x6
   exact end1 rfl rfl (show _=t5 from rfl) ⟨gh,hxh,homh,hrvh⟩
def f94 (x0:Int):Option ((List Int)):=
 Option.bind (α:=(List Int)) (
  lp (σ:=(List Int) × Int) (fun rA (u3,o0)=>
   jn (σ:=Unit) (fun _=>
    Option.bind (α:=(List Int)) (
     (shr64 x0 o0).bind fun m7=>
     bif ((bit64 .and m7 (1 : Int)) == (1 : Int)) then
      (apnd 8 u3 (([o0]:List Int))).bind fun yA=>
      some (yA)
     else
      some (u3)
     ) fun l5=>
    rA (l5,(w64 (o0 + (1:Int))))
    ) fun aB=>
   (shr64 x0 o0).bind fun l8=>
   bif (decide (l8 > (0 : Int))) then
    aB ()
   else
    some (u3)
   ) big ([],(0:Int))
  ) fun x5=>
 some (x5)
theorem en94:Enters Tryz.prog 94:=enters_of Tryz.func94 (by kernel_rfl) rfl
theorem wk94 {gI:Gh} {wI:World} {x0:Int}  {r:(List Int)} (h:f94 x0=some r):Fn Tryz.prog 94 #[.int .i64 (x0)] gI wI (fun m w v=>RV m w (r) v):=by
 unfold f94 at h
 refine fn_of_E Tryz.func94 rfl (Nat.le_of_ble_eq_true rfl) fun g0 hm hfr=>?_
 show E _ 20 none _ _ _ _ _
 refine Zf (Za (Zg (.slice none 0 0) rfl rfl ?_))
 refine Zb (Zd ?_)
 obtain ⟨x5,hx,h⟩:=bsome h
 refine E_join (fun e w=>∃ (g:Gh) (v2:Value),Fr gI wI g w∧e 2=v2∧RV g.m w (x5:List Int) v2∧OS 1002 g w 3 (x5:List Int) v2) (fun Q' hQ=>?_) (fun uC cD hR=>?_)
 ·replace h := hx
  clear hx
  refine Zf (Za (Zg (.int .i64 (0)) rfl rfl ?_))
  refine Zb (Zd (Zr ?_))
  refine E_lp h (fun (s:(List Int) × Int) e w=>∃ (g:Gh) (v2:Value),Fr gI wI g w∧e 0=.int .i64 (x0)∧e 2=v2∧RV g.m w (s.1:List Int) v2∧OS 1002 g w 3 (s.1:List Int) v2∧e 3=.int .i64 (s.2)) ⟨g0,(.slice none 0 0),hfr,rfl,rfl,RV_nil,OS.nil,rfl⟩ (fun X20 rA mB=>?_)
  rintro ⟨u3,o0⟩ vC eD ⟨dB,t5,hfr,m8,n8,r8,v8,x8⟩ h
  refine Zq h (fun (s:Unit) e w=>∃ (g:Gh) ,Fr gI wI g w∧e 0=.int .i64 (x0)∧e 2=t5∧RV g.m w (u3:List Int) t5∧OS 1002 g w 3 (u3:List Int) t5∧e 3=.int .i64 (o0)) (fun X24 aB nB h=>?_) ?_
  ·refine Zf (Za (Zo m8 rfl ?_))
   refine Zo x8 rfl ?_
   obtain ⟨l8,oB,h⟩:=bsome h
   refine EL_p (.int .i64 (l8)) (P_int rfl rfl (congrArg (Option.map (Value.int .i64)) oB)) rfl ?_
   refine EL_in (.bool ((decide (l8 > (0:Int))))) rfl rfl rfl rfl ?_
   refine Zb (Zd ?_)
   rcases Zt h with ⟨g8,h⟩ | ⟨g8,h⟩
   ·refine E_ct g8 rfl ?_
    exact Zu (Zd (nB () _ _ ⟨dB,hfr,m8,n8,r8,v8,x8⟩ h))
   ·refine E_cf g8 rfl ?_
    refine E_exit ?_
    refine thn_e ?_
    refine thn_e ?_
    refine blk_hit ?_
    obtain rfl:=sinj h
    exact hQ _ _ ⟨dB,(t5),hfr,n8,r8,v8⟩
  ·rintro _ aD gD ⟨iB, hfr, i7, a9, i6, x6, y6⟩ h
   obtain ⟨l5,hx,h⟩:=bsome h
   refine E_join (fun e w=>∃ (g:Gh) (v2:Value),Fr gI wI g w∧e 0=.int .i64 (x0)∧e 2=v2∧RV g.m w (l5:List Int) v2∧OS 1002 g w 3 (l5:List Int) v2∧e 3=.int .i64 (o0)) (fun Q' hQ=>?_) (fun bD iD hR=>?_)
   ·replace h := hx
    clear hx
    refine Zr ?_
    refine Zf (Za (Zo i7 rfl ?_))
    refine Zo y6 rfl ?_
    obtain ⟨m7,tB,h⟩:=bsome h
    refine EL_p (.int .i64 (m7)) (P_int rfl rfl (congrArg (Option.map (Value.int .i64)) tB)) rfl ?_
    refine EL_in (.int .i64 ((bit64 .and m7 (1:Int)))) rfl rfl rfl rfl ?_
    refine EL_in (.bool (((bit64 .and m7 (1:Int)) == (1:Int)))) rfl rfl rfl rfl ?_
    refine Zb (Zd ?_)
    rcases Zt h with ⟨k8,h⟩ | ⟨k8,h⟩
    ·refine E_ct k8 rfl ?_
     refine Za (Zo a9 rfl ?_)
     refine Zo y6 rfl ?_
     refine Ze .plain rfl (D_buildSlice (g:=iB) 3017 (xs:=([o0]:List Int)) (vs:=[.int .i64 (o0)]) Tryz.underlying28 Tryz.sizeOf3 Tryz.zeroValue3 rfl rfl (.cons rfl .nil) (RVs.cons (Zj.2 rfl) RVs.nil) rfl rfl fun yB jD lD hs o35 zB hxt hfl=>?_)
     have hfr:=hfr.stp hs
     have i6:=i6.stp hs
     have x6:=x6.stp hs rfl
     obtain ⟨yA,vB,h⟩:=bsome h
     refine Ze .plain rfl (D_append (g:=yB) (i:=1002) Tryz.underlying28 info_3 rfl rfl x6 i6 rfl zB vB fun cC nD lB hs o36 mC _=>?_)
     have hfr:=hfr.stp hs
     refine Zg lB rfl rfl ?_
     refine Zb (blk_n ?_)
     obtain rfl:=sinj h
     exact hQ _ _ ⟨cC,(lB),hfr,i7,rfl,mC,o36,y6⟩
    ·refine E_cf k8 rfl ?_
     refine Zu (blk_n ?_)
     obtain rfl:=sinj h
     exact hQ _ _ ⟨iB,(t5),hfr,i7,a9,i6,x6,y6⟩
   ·clear hx
    obtain ⟨qC,k9,hfr,l9,n9,u9,y9,z9⟩:=hR
    refine Za (Zo z9 rfl ?_)
    refine EL_in (.int .i64 ((w64 (o0 + (1:Int))))) rfl rfl rfl rfl ?_
    refine Zg (.int .i64 ((w64 (o0 + (1:Int))))) rfl rfl ?_
    exact Zb (Zd (mB (l5,(w64 (o0 + (1:Int)))) _ _ ⟨qC,(k9),hfr,l9,n9,u9,y9,rfl⟩ h))
 ·clear hx
  obtain ⟨oD,d9,hfr,bA,iA,rC⟩:=hR
  refine Zf (Za (Zo bA rfl ?_))
  refine Zg d9 rfl rfl ?_
  refine Zb (Zd (E_ret ?_))
  obtain rfl:=sinj h
  exact end1 rfl rfl (show _=d9 from rfl) ⟨_,hfr,iA⟩
def f100 (x0:Int) (z0:List Bool):Option (Bool):=
 (idx z0 x0).bind fun y2=>
 some ((!y2))
theorem en100:Enters Tryz.prog 100:=enters_of Tryz.func100 (by kernel_rfl) rfl
theorem wk100 {gI:Gh} {wI:World} {x0:Int} {z0:List Bool} {pf0:Value} (qf0:PT gI.m wI z0 pf0) {r:Bool} (h:f100 x0 z0=some r):Fn Tryz.prog 100 #[.int .i64 (x0),pf0] gI wI (fun _ _ v=>v=.bool (r)):=by
 unfold f100 at h
 refine fn_of_E Tryz.func100 rfl (Nat.le_of_ble_eq_true rfl) fun g0 hm hfr=>?_
 have qf0:PT g0.m wI z0 pf0:=hm ▸ qf0
 show E _ 9 none _ _ _ _ _
 refine Zf (Za (Zg (.bool false) rfl rfl ?_))
 refine Zb (Zd (Zf (Za (Ze .plain rfl (D_load (g:=g0) Tryz.isAgg137 Tryz.sizeOf137 rfl qf0 fun v1 r1=>?_)))))
 refine Zn (.int .i64 (x0)) rfl rfl ?_
 obtain ⟨y2,hy2,h⟩:=bsome h
 refine EL_p (ePtr v1 x0 1) (Zh (α:=Bool) Tryz.underlying137 Tryz.sizeOf4 rfl r1 rfl hy2) rfl ?_
 have q3:=PT_idx r1 hy2
 refine Ze .plain rfl (D_load (g:=g0) Tryz.isAgg4 Tryz.sizeOf4 rfl q3 fun v4 r4=>?_)
 obtain rfl:=RV_bool.1 r4
 refine EL_p (.bool (!y2)) (P_not rfl) rfl ?_
 refine Zg (.bool (!y2)) rfl rfl ?_
 refine Zb (Zd (E_ret ?_))
 obtain rfl:=sinj h
 exact end1 rfl rfl (show _=.bool (!y2) from rfl) ⟨_,hfr,rfl⟩
def f108 (x0:Int) (z0:Int) (z1:Int):Option (Bool):=
 Option.bind (α:=Bool) (
  bif (decide (x0 < z0)) then
   some (true)
  else
   some ((decide (x0 > z1)))
  ) fun o0=>
 some (o0)
theorem en108:Enters Tryz.prog 108:=enters_of Tryz.func108 (by kernel_rfl) rfl
theorem wk108 {gI:Gh} {wI:World} {x0:Int} {z0:Int} {z1:Int} {pf0:Value} (qf0:PT gI.m wI z0 pf0) {pf1:Value} (qf1:PT gI.m wI z1 pf1) {r:Bool} (h:f108 x0 z0 z1=some r):Fn Tryz.prog 108 #[.int .i64 (x0),pf0,pf1] gI wI (fun _ _ v=>v=.bool (r)):=by
 unfold f108 at h
 refine fn_of_E Tryz.func108 rfl (Nat.le_of_ble_eq_true rfl) fun g0 hm hfr=>?_
 have qf0:PT g0.m wI z0 pf0:=hm ▸ qf0
 have qf1:PT g0.m wI z1 pf1:=hm ▸ qf1
 show E _ 13 none _ _ _ _ _
 refine Zf (Za (Zg (.bool false) rfl rfl ?_))
 refine Zb (Zd ?_)
 obtain ⟨o0,hx,h⟩:=bsome h
 refine E_join (fun e w=>∃ (g:Gh) ,Fr gI wI g w∧e 4=.bool (o0)) (fun Q' hQ=>?_) (fun l5 w7 hR=>?_)
 ·replace h := hx
  clear hx
  refine Za (Zn (.int .i64 (x0)) rfl rfl ?_)
  refine Ze .plain rfl (D_load (g:=g0) Tryz.isAgg3 Tryz.sizeOf3 rfl qf0 fun v4 r4=>?_)
  obtain rfl:=Zj.1 r4
  refine EL_in (.bool ((decide (x0 < z0)))) rfl rfl rfl rfl ?_
  refine Zn (.bool ((decide (x0 < z0)))) rfl rfl ?_
  rcases Zt h with ⟨hc5,h⟩ | ⟨hc5,h⟩
  ·refine EL_s rfl rfl hc5 rfl rfl ?_
   refine EL_s rfl rfl hc5 rfl rfl ?_
   refine EL_s rfl rfl hc5 rfl rfl ?_
   refine EL_p (.bool true) (Zl (b:=(decide (x0 < z0))) rfl (pick_t hc5 rfl)) rfl ?_
   refine Zg (.bool true) rfl rfl ?_
   refine Zb ?_
   obtain rfl:=sinj h
   exact hQ _ _ ⟨g0,hfr,rfl⟩
  ·refine EL_y (.int .i64 (x0)) (Zk rfl) rfl rfl hc5 rfl ?_
   refine Ze (.yes2 rfl rfl hc5) rfl (D_load (g:=g0) Tryz.isAgg3 Tryz.sizeOf3 rfl qf1 fun v6 r6=>?_)
   obtain rfl:=Zj.1 r6
   refine EL_y (.bool ((decide (x0 > z1)))) (P_int rfl rfl rfl) rfl rfl hc5 rfl ?_
   refine EL_p (.bool ((decide (x0 > z1)))) (Zl (b:=(decide (x0 < z0))) rfl (pick_f hc5 rfl)) rfl ?_
   refine Zg (.bool ((decide (x0 > z1)))) rfl rfl ?_
   refine Zb ?_
   obtain rfl:=sinj h
   exact hQ _ _ ⟨g0,hfr,rfl⟩
 ·clear hx
  obtain ⟨g7,hfr,u3⟩:=hR
  refine E_ret ?_
  obtain rfl:=sinj h
  exact end1 rfl rfl (show _=.bool (o0) from u3) ⟨_,hfr,rfl⟩
def f110 (x0:Int):Option (Bool):=
 some ((x0 != x0))
theorem en110:Enters Tryz.prog 110:=enters_of Tryz.func110 (by kernel_rfl) rfl
theorem wk110 {gI:Gh} {wI:World} {x0:Int}  {r:Bool} (h:f110 x0=some r):Fn Tryz.prog 110 #[.int .i64 (x0)] gI wI (fun _ _ v=>v=.bool (r)):=by
 unfold f110 at h
 refine fn_of_E Tryz.func110 rfl (Nat.le_of_ble_eq_true rfl) fun g0 hm hfr=>?_
 show E _ 6 none _ _ _ _ _
 refine Zf (Za (Zg (.bool false) rfl rfl ?_))
 refine Zb (Zd (Zf (Za (Zn (.int .i64 (x0)) rfl rfl ?_))))
 refine Zn (.int .i64 (x0)) rfl rfl ?_
 refine EL_in (.bool ((x0 != x0))) rfl rfl rfl rfl ?_
 refine Zg (.bool ((x0 != x0))) rfl rfl ?_
 refine Zb (Zd (E_ret ?_))
 obtain rfl:=sinj h
 exact end1 rfl rfl (show _=.bool ((x0 != x0)) from rfl) ⟨_,hfr,rfl⟩
def f114 (x0:PaySheet):Option ((List PayPlace)):=
 Option.bind (α:=(List PayPlace)) (
  lp (σ:=(List PayPlace) × Int) (fun oE (d9,o0)=>
   bif (decide (o0 < ((((x0).PayTable).Rows).length : Int))) then
    Option.bind (α:=(List PayPlace)) (
     (idx (((x0).PayTable).Rows) o0).bind fun y6=>
     lp (σ:=(List PayPlace) × Int) (fun rE (m8,u3)=>
      bif (decide (u3 < ((y6).length : Int))) then
       Option.bind (α:=(List PayPlace)) (
        (idx y6 u3).bind fun z9=>
        bif (z9 == (-1 : Int)) then
         (apnd 16 m8 (([(⟨o0,u3⟩:PayPlace)]:List PayPlace))).bind fun uC=>
         some (uC)
        else
         some (m8)
        ) fun x5=>
       rE (x5,(w64 (u3 + (1:Int))))
      else
       some (m8)
      ) big (d9,(0:Int))
     ) fun i6=>
    oE (i6,(w64 (o0 + (1:Int))))
   else
    some (d9)
   ) big ([],(0:Int))
  ) fun i7=>
 some (i7)
theorem en114:Enters Tryz.prog 114:=enters_of Tryz.func114 (by kernel_rfl) rfl
theorem wk114 {gI:Gh} {wI:World} {x0:PaySheet} {up0:Value} (rp0:RV gI.m wI x0 up0) {r:(List PayPlace)} (h:f114 x0=some r):Fn Tryz.prog 114 #[up0] gI wI (fun m w v=>RV m w (r) v):=by
 unfold f114 at h
 refine fn_of_E Tryz.func114 rfl (Nat.le_of_ble_eq_true rfl) fun g0 hm hfr=>?_
 have rp0:RV g0.m wI x0 up0:=hm ▸ rp0
 show E _ 34 none _ _ _ _ _
 refine Zf (Za (Ze .plain rfl (D_box (g:=g0) rfl rp0 fun g1 w1 p1 hs q1=>?_)))
 have hfr:=hfr.ext hs
 refine Zg (.slice none 0 0) rfl rfl ?_
 refine Zb (Zd ?_)
 obtain ⟨i7,hx,h⟩:=bsome h
 refine E_join (fun e w=>∃ (g:Gh) (v2:Value),Fr gI wI g w∧e 2=v2∧RV g.m w (i7:List PayPlace) v2∧OS 1002 g w 232 (i7:List PayPlace) v2) (fun Q' hQ=>?_) (fun bG gG hR=>?_)
 ·replace h := hx
  clear hx
  refine Zf (Za (EL_p (fPtr p1 0) (Zc at_173_0 rfl (PT.ptr q1)) rfl ?_))
  have uE:=Zm (part_PaySheet_0).1 q1
  refine EL_p (fPtr (fPtr p1 0) 0) (Zc at_91_0 rfl (PT.ptr uE)) rfl ?_
  have xF:=Zm (part_PayTable_0).1 uE
  refine Ze .plain rfl (D_load (g:=g1) Tryz.isAgg35 Tryz.sizeOf35 rfl xF fun m7 vE=>?_)
  refine EL_p (.int .i64 ((((x0).PayTable).Rows).length:Int)) (P_len Tryz.underlying35 rfl vE) rfl ?_
  refine Zn (.int .i64 (0)) rfl rfl ?_
  refine Zb (Zd (Zr ?_))
  refine E_lp h (fun (s:(List PayPlace) × Int) e w=>∃ (g:Gh) (v2:Value),Fr gI wI g w∧e 2=v2∧RV g.m w (s.1:List PayPlace) v2∧OS 1002 g w 232 (s.1:List PayPlace) v2∧e 9=m7∧RV g.m w (((x0).PayTable).Rows:List (List Int)) m7∧e 10=.int .i64 (((((x0).PayTable).Rows).length:Int))∧e 11=.int .i64 (s.2)) ⟨g1,(.slice none 0 0),hfr,rfl,RV_nil,OS.nil,rfl,vE,rfl,rfl⟩ (fun X58 oE yE=>?_)
  rintro ⟨d9,o0⟩ hG zG ⟨vC,dB,hfr,iB,lB,mB,nB,k9,bA,g8⟩ h
  refine Zf (Za (EL_p (.bool ((decide (o0 < ((((x0).PayTable).Rows).length:Int))))) (P_int g8 bA rfl) rfl ?_))
  refine Zb (Zd (Zf ?_))
  rcases Zt h with ⟨yA,h⟩ | ⟨yA,h⟩
  ·refine E_ct yA rfl ?_
   refine Zu (Zd ?_)
   obtain ⟨i6,hx,h⟩:=bsome h
   refine E_join (fun e w=>∃ (g:Gh) (v2:Value),Fr gI wI g w∧e 2=v2∧RV g.m w (i6:List PayPlace) v2∧OS 1002 g w 232 (i6:List PayPlace) v2∧e 9=m7∧RV g.m w (((x0).PayTable).Rows:List (List Int)) m7∧e 10=.int .i64 (((((x0).PayTable).Rows).length:Int))∧e 11=.int .i64 (o0)) (fun Q' hQ=>?_) (fun cG iG hR=>?_)
   ·replace h := hx
    clear hx
    refine Zr ?_
    refine Zf (Za (Zo g8 rfl ?_))
    obtain ⟨y6,aD,h⟩:=bsome h
    refine EL_p (ePtr m7 o0 1) (Zh (α:=List Int) Tryz.underlying35 Tryz.sizeOf28 nB k9 g8 aD) rfl ?_
    have yF:=PT_idx k9 aD
    refine Ze .plain rfl (D_load (g:=vC) Tryz.isAgg28 Tryz.sizeOf28 rfl yF fun n8 xE=>?_)
    refine Zg (.int .i64 (o0)) rfl rfl ?_
    refine Zg n8 rfl rfl ?_
    refine Zb (Zd (Zf (Za (Zn n8 rfl rfl ?_))))
    refine EL_p (.int .i64 ((y6).length:Int)) (P_len Tryz.underlying28 rfl xE) rfl ?_
    refine Zn (.int .i64 (0)) rfl rfl ?_
    refine Zb (Zd (Zr ?_))
    refine E_lp h (fun (s:(List PayPlace) × Int) e w=>∃ (g:Gh) (v2:Value),Fr gI wI g w∧e 2=v2∧RV g.m w (s.1:List PayPlace) v2∧OS 1002 g w 232 (s.1:List PayPlace) v2∧e 3=.int .i64 (o0)∧e 9=m7∧RV g.m w (((x0).PayTable).Rows:List (List Int)) m7∧e 10=.int .i64 (((((x0).PayTable).Rows).length:Int))∧e 11=.int .i64 (o0)∧e 16=n8∧RV g.m w (y6:List Int) n8∧e 17=.int .i64 (((y6).length:Int))∧e 18=.int .i64 (s.2)) ⟨vC,(dB),hfr,iB,lB,mB,rfl,nB,k9,bA,g8,rfl,xE,rfl,rfl⟩ (fun X88 rE zE=>?_)
    rintro ⟨m8,u3⟩ jG zF ⟨iA,oB,hfr,l9,k8,l8,n9,u9,t5,r8,v8,x8,l5,a9,x6⟩ h
    refine Zf (Za (EL_in (.bool ((decide (u3 < ((y6).length:Int))))) x6 a9 rfl rfl ?_))
    refine Zb (Zd (Zf ?_))
    rcases Zt h with ⟨aB,h⟩ | ⟨aB,h⟩
    ·refine E_ct aB rfl ?_
     refine Zu (Zd ?_)
     obtain ⟨x5,hx,h⟩:=bsome h
     refine E_join (fun e w=>∃ (g:Gh) (v2:Value),Fr gI wI g w∧e 2=v2∧RV g.m w (x5:List PayPlace) v2∧OS 1002 g w 232 (x5:List PayPlace) v2∧e 3=.int .i64 (o0)∧e 9=m7∧RV g.m w (((x0).PayTable).Rows:List (List Int)) m7∧e 10=.int .i64 (((((x0).PayTable).Rows).length:Int))∧e 11=.int .i64 (o0)∧e 16=n8∧RV g.m w (y6:List Int) n8∧e 17=.int .i64 (((y6).length:Int))∧e 18=.int .i64 (u3)) (fun Q' hQ=>?_) (fun eG kG hR=>?_)
     ·replace h := hx
      clear hx
      refine Zr ?_
      refine Zf (Za (Zo x6 rfl ?_))
      obtain ⟨z9,bD,h⟩:=bsome h
      refine EL_p (ePtr n8 u3 1) (Zh (α:=Int) Tryz.underlying28 Tryz.sizeOf3 x8 l5 x6 bD) rfl ?_
      have cF:=PT_idx l5 bD
      refine Ze .plain rfl (D_load (g:=iA) Tryz.isAgg3 Tryz.sizeOf3 rfl cF fun lG dF=>?_)
      obtain rfl:=Zj.1 dF
      refine Zg (.int .i64 (u3)) rfl rfl ?_
      refine Zg (.int .i64 (z9)) rfl rfl ?_
      refine Zb (Zd (Zf (Za (Zn (.int .i64 (z9)) rfl rfl ?_))))
      refine EL_in (.bool ((z9 == (-1:Int)))) rfl rfl rfl rfl ?_
      refine Zb (Zd ?_)
      rcases Zt h with ⟨y9,h⟩ | ⟨y9,h⟩
      ·refine E_ct y9 rfl ?_
       refine Za (Zo l9 rfl ?_)
       refine Zo n9 rfl ?_
       refine Zn (.int .i64 (u3)) rfl rfl ?_
       have cD:RV iA.m zF (⟨o0,u3⟩:PayPlace) (.agg (setCh [[.int .i64 0],[.int .i64 0]] [(0,.int .i64 (o0)),(1,.int .i64 (u3))]).flatten.toArray):=RV_build rfl (rep_pair (rfl) (rep_last (rfl)))
       generalize lE:(Value.agg (setCh [[.int .i64 0],[.int .i64 0]] [(0,.int .i64 (o0)),(1,.int .i64 (u3))]).flatten.toArray)=eD at cD
       refine EL_p eD (lE ▸ P_build (vs:=[(0,.int .i64 (o0)),(1,.int .i64 (u3))]) [[.int .i64 0],[.int .i64 0]] lay_232 rfl rfl (.cons rfl (.cons rfl .nil)) ⟨⟨_,rfl,rfl⟩,⟨⟨_,rfl,rfl⟩,trivial⟩⟩) rfl ?_
       refine Ze .plain rfl (D_buildSlice (g:=iA) 3029 (xs:=([(⟨o0,u3⟩:PayPlace)]:List PayPlace)) (vs:=[eD]) Tryz.underlying184 Tryz.sizeOf232 Tryz.zeroValue232 rfl rfl (.cons rfl .nil) (RVs.cons cD RVs.nil) rfl rfl fun eF mG sG hs o104 rF hxt hfl=>?_)
       have hfr:=hfr.stp hs
       have k8:=k8.stp hs
       have l8:=l8.stp hs rfl
       have t5:=t5.stp hs
       have l5:=l5.stp hs
       obtain ⟨uC,mE,h⟩:=bsome h
       refine Ze .plain rfl (D_append (g:=eF) (i:=1002) Tryz.underlying184 info_232 rfl rfl l8 k8 rfl rF mE fun sF xG gD hs o105 tF _=>?_)
       have hfr:=hfr.stp hs
       have t5:=t5.stp hs
       have l5:=l5.stp hs
       refine Zg gD rfl rfl ?_
       refine Zb (blk_n ?_)
       obtain rfl:=sinj h
       exact hQ _ _ ⟨sF,(gD),hfr,rfl,tF,o105,n9,u9,t5,r8,v8,x8,l5,a9,x6⟩
      ·refine E_cf y9 rfl ?_
       refine Zu (blk_n ?_)
       obtain rfl:=sinj h
       exact hQ _ _ ⟨iA,(oB),hfr,l9,k8,l8,n9,u9,t5,r8,v8,x8,l5,a9,x6⟩
     ·clear hx
      obtain ⟨uF,iD,hfr,jD,lD,nD,oD,sD,tD,tB,vB,yB,zB,cC,mC⟩:=hR
      refine Za (EL_in (.int .i64 ((w64 (u3 + (1:Int))))) mC rfl rfl rfl ?_)
      refine Zn (.int .i64 ((w64 (u3 + (1:Int))))) rfl rfl ?_
      exact Zb (Zd (zE (x5,(w64 (u3 + (1:Int)))) _ _ ⟨uF,(iD),hfr,jD,lD,nD,oD,sD,tD,tB,vB,yB,zB,cC,rfl⟩ h))
    ·refine E_cf aB rfl ?_
     refine E_exit ?_
     refine thn_e ?_
     refine thn_e ?_
     refine blk_hit ?_
     refine blk_n ?_
     obtain rfl:=sinj h
     exact hQ _ _ ⟨iA,(oB),hfr,l9,k8,l8,u9,t5,r8,v8⟩
   ·clear hx
    obtain ⟨vF,uD,hfr,vD,xD,yD,zD,aE,qC,rC⟩:=hR
    refine Za (EL_in (.int .i64 ((w64 (o0 + (1:Int))))) rC rfl rfl rfl ?_)
    refine Zn (.int .i64 ((w64 (o0 + (1:Int))))) rfl rfl ?_
    exact Zb (Zd (yE (i6,(w64 (o0 + (1:Int)))) _ _ ⟨vF,(uD),hfr,vD,xD,yD,zD,aE,qC,rfl⟩ h))
  ·refine E_cf yA rfl ?_
   refine E_exit ?_
   refine thn_e ?_
   refine thn_e ?_
   refine blk_hit ?_
   obtain rfl:=sinj h
   exact hQ _ _ ⟨vC,(dB),hfr,iB,lB,mB⟩
 ·clear hx
  obtain ⟨yG,rA,hfr,bE,iE,aG⟩:=hR
  refine Zf (Za (Zo bE rfl ?_))
  refine Zg rA rfl rfl ?_
  refine Zb (Zd (E_ret ?_))
  obtain rfl:=sinj h
  exact end1 rfl rfl (show _=rA from rfl) ⟨_,hfr,iE⟩
def f115 (x0:List Int):Option (Int):=
 Option.bind (α:=Int) (
  lp (σ:=Int × Int) (fun d9 (u3,o0)=>
   bif (decide (o0 < ((x0).length : Int))) then
    Option.bind (α:=Int) (
     (idx x0 o0).bind fun x5=>
     some ((w64 (u3 + x5)))
     ) fun t5=>
    d9 (t5,(w64 (o0 + (1:Int))))
   else
    some (u3)
   ) big ((0:Int),(0:Int))
  ) fun l5=>
 some (l5)
theorem en115:Enters Tryz.prog 115:=enters_of Tryz.func115 (by kernel_rfl) rfl
theorem wk115 {gI:Gh} {wI:World} {x0:List Int} {up0:Value} (rp0:RV gI.m wI x0 up0) {r:Int} (h:f115 x0=some r):Fn Tryz.prog 115 #[up0] gI wI (fun _ _ v=>v=.int .i64 (r)):=by
 unfold f115 at h
 refine fn_of_E Tryz.func115 rfl (Nat.le_of_ble_eq_true rfl) fun g0 hm hfr=>?_
 have rp0:RV g0.m wI x0 up0:=hm ▸ rp0
 show E _ 16 none _ _ _ _ _
 refine Zf (Za (Zg (.int .i64 (0)) rfl rfl ?_))
 refine Zb (Zd ?_)
 obtain ⟨l5,hx,h⟩:=bsome h
 refine E_join (fun e w=>∃ (g:Gh) ,Fr gI wI g w∧e 2=.int .i64 (l5)) (fun Q' hQ=>?_) (fun y9 iA hR=>?_)
 ·replace h := hx
  clear hx
  refine Zf (Za (Zn up0 rfl rfl ?_))
  refine EL_p (.int .i64 ((x0).length:Int)) (P_len Tryz.underlying28 rfl rp0) rfl ?_
  refine Zn (.int .i64 (0)) rfl rfl ?_
  refine Zb (Zd (Zr ?_))
  refine E_lp h (fun (s:Int × Int) e w=>∃ (g:Gh) ,Fr gI wI g w∧e 2=.int .i64 (s.1)∧e 5=up0∧RV g.m w (x0:List Int) up0∧e 6=.int .i64 (((x0).length:Int))∧e 7=.int .i64 (s.2)) ⟨g0,hfr,rfl,rfl,rp0,rfl,rfl⟩ (fun X11 d9 k9=>?_)
  rintro ⟨u3,o0⟩ z9 rA ⟨k8,hfr,i7,m7,i6,g8,x6⟩ h
  refine Zf (Za (EL_in (.bool ((decide (o0 < ((x0).length:Int))))) x6 g8 rfl rfl ?_))
  refine Zb (Zd (Zf ?_))
  rcases Zt h with ⟨y6,h⟩ | ⟨y6,h⟩
  ·refine E_ct y6 rfl ?_
   refine Zu (Zd ?_)
   obtain ⟨t5,hx,h⟩:=bsome h
   refine E_join (fun e w=>∃ (g:Gh) ,Fr gI wI g w∧e 2=.int .i64 (t5)∧e 5=up0∧RV g.m w (x0:List Int) up0∧e 6=.int .i64 (((x0).length:Int))∧e 7=.int .i64 (o0)) (fun Q' hQ=>?_) (fun bA yA hR=>?_)
   ·replace h := hx
    clear hx
    refine Zr ?_
    refine Zf (Za ?_)
    obtain ⟨x5,l8,h⟩:=bsome h
    refine EL_p (ePtr up0 o0 1) (Zh (α:=Int) Tryz.underlying28 Tryz.sizeOf3 m7 i6 x6 l8) rfl ?_
    have l9:=PT_idx i6 l8
    refine Ze .plain rfl (D_load (g:=k8) Tryz.isAgg3 Tryz.sizeOf3 rfl l9 fun aB n9=>?_)
    obtain rfl:=Zj.1 n9
    refine Zg (.int .i64 (x5)) rfl rfl ?_
    refine Zb (Zd (Za (Zo i7 rfl ?_)))
    refine Zn (.int .i64 (x5)) rfl rfl ?_
    refine EL_in (.int .i64 ((w64 (u3 + x5)))) rfl rfl rfl rfl ?_
    refine Zg (.int .i64 ((w64 (u3 + x5)))) rfl rfl ?_
    refine Zb (blk_n ?_)
    obtain rfl:=sinj h
    exact hQ _ _ ⟨k8,hfr,rfl,m7,i6,g8,x6⟩
   ·clear hx
    obtain ⟨u9,hfr,m8,n8,r8,v8,x8⟩:=hR
    refine Za (EL_in (.int .i64 ((w64 (o0 + (1:Int))))) x8 rfl rfl rfl ?_)
    refine Zn (.int .i64 ((w64 (o0 + (1:Int))))) rfl rfl ?_
    exact Zb (Zd (k9 (t5,(w64 (o0 + (1:Int)))) _ _ ⟨u9,hfr,m8,n8,r8,v8,rfl⟩ h))
  ·refine E_cf y6 rfl ?_
   refine E_exit ?_
   refine thn_e ?_
   refine thn_e ?_
   refine blk_hit ?_
   obtain rfl:=sinj h
   exact hQ _ _ ⟨k8,hfr,i7⟩
 ·clear hx
  obtain ⟨dB,hfr,a9⟩:=hR
  refine Zf (Za (Zo a9 rfl ?_))
  refine Zg (.int .i64 (l5)) rfl rfl ?_
  refine Zb (Zd (E_ret ?_))
  obtain rfl:=sinj h
  exact end1 rfl rfl (show _=.int .i64 (l5) from rfl) ⟨_,hfr,rfl⟩
def f116 (x0:PaySheet) (x1:Int):Option ((List Int)):=
 Option.bind (α:=(List Int)) (
  lp (σ:=(List Int) × Int) (fun iB (y6,o0)=>
   bif (decide (o0 < ((((x0).PayTable).Rows).length : Int))) then
    Option.bind (α:=(List Int)) (
     (idx (((x0).PayTable).Rows) o0).bind fun lB=>
     (idx lB x1).bind fun k8=>
     (apnd 8 y6 (([k8]:List Int))).bind fun mB=>
     some (mB)
     ) fun l5=>
    iB (l5,(w64 (o0 + (1:Int))))
   else
    some (y6)
   ) big ([],(0:Int))
  ) fun t5=>
 some (t5)
theorem en116:Enters Tryz.prog 116:=enters_of Tryz.func116 (by kernel_rfl) rfl
theorem wk116 {gI:Gh} {wI:World} {x0:PaySheet} {x1:Int} {up0:Value} (rp0:RV gI.m wI x0 up0) {r:(List Int)} (h:f116 x0 x1=some r):Fn Tryz.prog 116 #[up0,.int .i64 (x1)] gI wI (fun m w v=>RV m w (r) v):=by
 unfold f116 at h
 refine fn_of_E Tryz.func116 rfl (Nat.le_of_ble_eq_true rfl) fun g0 hm hfr=>?_
 have rp0:RV g0.m wI x0 up0:=hm ▸ rp0
 show E _ 24 none _ _ _ _ _
 refine Zf (Za (Ze .plain rfl (D_box (g:=g0) rfl rp0 fun g1 w1 p1 hs q1=>?_)))
 have hfr:=hfr.ext hs
 refine Zg (.slice none 0 0) rfl rfl ?_
 refine Zb (Zd ?_)
 obtain ⟨t5,hx,h⟩:=bsome h
 refine E_join (fun e w=>∃ (g:Gh) (v4:Value),Fr gI wI g w∧e 4=v4∧RV g.m w (t5:List Int) v4∧OS 1004 g w 3 (t5:List Int) v4) (fun Q' hQ=>?_) (fun gD lD hR=>?_)
 ·replace h := hx
  clear hx
  refine Zf (Za (EL_p (fPtr p1 0) (Zc at_173_0 rfl (PT.ptr q1)) rfl ?_))
  have nB:=Zm (part_PaySheet_0).1 q1
  refine EL_p (fPtr (fPtr p1 0) 0) (Zc at_91_0 rfl (PT.ptr nB)) rfl ?_
  have cC:=Zm (part_PayTable_0).1 nB
  refine Ze .plain rfl (D_load (g:=g1) Tryz.isAgg35 Tryz.sizeOf35 rfl cC fun i7 oB=>?_)
  refine EL_p (.int .i64 ((((x0).PayTable).Rows).length:Int)) (P_len Tryz.underlying35 rfl oB) rfl ?_
  refine Zn (.int .i64 (0)) rfl rfl ?_
  refine Zb (Zd (Zr ?_))
  refine E_lp h (fun (s:(List Int) × Int) e w=>∃ (g:Gh) (v4:Value),Fr gI wI g w∧e 1=.int .i64 (x1)∧e 4=v4∧RV g.m w (s.1:List Int) v4∧OS 1004 g w 3 (s.1:List Int) v4∧e 9=i7∧RV g.m w (((x0).PayTable).Rows:List (List Int)) i7∧e 10=.int .i64 (((((x0).PayTable).Rows).length:Int))∧e 11=.int .i64 (s.2)) ⟨g1,(.slice none 0 0),hfr,rfl,rfl,RV_nil,OS.nil,rfl,oB,rfl,rfl⟩ (fun X30 iB yB=>?_)
  rintro ⟨y6,o0⟩ iD nD ⟨l8,n9,hfr,m8,n8,x5,i6,r8,u3,m7,x6⟩ h
  refine Zf (Za (EL_p (.bool ((decide (o0 < ((((x0).PayTable).Rows).length:Int))))) (P_int x6 m7 rfl) rfl ?_))
  refine Zb (Zd (Zf ?_))
  rcases Zt h with ⟨g8,h⟩ | ⟨g8,h⟩
  ·refine E_ct g8 rfl ?_
   refine Zu (Zd ?_)
   obtain ⟨l5,hx,h⟩:=bsome h
   refine E_join (fun e w=>∃ (g:Gh) (v4:Value),Fr gI wI g w∧e 1=.int .i64 (x1)∧e 4=v4∧RV g.m w (l5:List Int) v4∧OS 1004 g w 3 (l5:List Int) v4∧e 9=i7∧RV g.m w (((x0).PayTable).Rows:List (List Int)) i7∧e 10=.int .i64 (((((x0).PayTable).Rows).length:Int))∧e 11=.int .i64 (o0)) (fun Q' hQ=>?_) (fun jD oD hR=>?_)
   ·replace h := hx
    clear hx
    refine Zr ?_
    refine Zf (Za ?_)
    obtain ⟨lB,x8,h⟩:=bsome h
    refine EL_p (ePtr i7 o0 1) (Zh (α:=List Int) Tryz.underlying35 Tryz.sizeOf28 r8 u3 x6 x8) rfl ?_
    have mC:=PT_idx u3 x8
    refine Ze .plain rfl (D_load (g:=l8) Tryz.isAgg28 Tryz.sizeOf28 rfl mC fun a9 tB=>?_)
    refine Zg a9 rfl rfl ?_
    refine Zb (Zd (Za (Zo n8 rfl ?_)))
    refine Zn a9 rfl rfl ?_
    refine Zo m8 rfl ?_
    obtain ⟨k8,d9,h⟩:=bsome h
    refine EL_p (ePtr a9 x1 1) (Zh (α:=Int) Tryz.underlying28 Tryz.sizeOf3 rfl tB rfl d9) rfl ?_
    have qC:=PT_idx tB d9
    refine Ze .plain rfl (D_load (g:=l8) Tryz.isAgg3 Tryz.sizeOf3 rfl qC fun sD rC=>?_)
    obtain rfl:=Zj.1 rC
    refine Ze .plain rfl (D_buildSlice (g:=l8) 3020 (xs:=([k8]:List Int)) (vs:=[.int .i64 (k8)]) Tryz.underlying28 Tryz.sizeOf3 Tryz.zeroValue3 rfl rfl (.cons rfl .nil) (RVs.cons (Zj.2 rfl) RVs.nil) rfl rfl fun uC tD uD hs o48 vC hxt hfl=>?_)
    have hfr:=hfr.stp hs
    have x5:=x5.stp hs
    have i6:=i6.stp hs rfl
    have u3:=u3.stp hs
    obtain ⟨mB,zB,h⟩:=bsome h
    refine Ze .plain rfl (D_append (g:=uC) (i:=1004) Tryz.underlying28 info_3 rfl rfl i6 x5 rfl vC zB fun aD vD vB hs o49 bD _=>?_)
    have hfr:=hfr.stp hs
    have u3:=u3.stp hs
    refine Zg vB rfl rfl ?_
    refine Zb (blk_n ?_)
    obtain rfl:=sinj h
    exact hQ _ _ ⟨aD,(vB),hfr,m8,rfl,bD,o49,r8,u3,m7,x6⟩
   ·clear hx
    obtain ⟨cD,u9,hfr,y9,z9,bA,iA,rA,yA,k9,l9⟩:=hR
    refine Za (EL_in (.int .i64 ((w64 (o0 + (1:Int))))) l9 rfl rfl rfl ?_)
    refine Zn (.int .i64 ((w64 (o0 + (1:Int))))) rfl rfl ?_
    exact Zb (Zd (yB (l5,(w64 (o0 + (1:Int)))) _ _ ⟨cD,(u9),hfr,y9,z9,bA,iA,rA,yA,k9,rfl⟩ h))
  ·refine E_cf g8 rfl ?_
   refine E_exit ?_
   refine thn_e ?_
   refine thn_e ?_
   refine blk_hit ?_
   obtain rfl:=sinj h
   exact hQ _ _ ⟨l8,(n9),hfr,n8,x5,i6⟩
 ·clear hx
  obtain ⟨xD,v8,hfr,aB,dB,eD⟩:=hR
  refine Zf (Za (Zo aB rfl ?_))
  refine Zg v8 rfl rfl ?_
  refine Zb (Zd (E_ret ?_))
  obtain rfl:=sinj h
  exact end1 rfl rfl (show _=v8 from rfl) ⟨_,hfr,dB⟩
def f117 (x0:List Int) (x1:Int→Option Bool):Option (Int):=
 jn (σ:=Unit) (fun _=>
  some ((-1:Int))
  ) fun k18=>
 lp (σ:=Int) (fun k19 o0=>
  bif (decide (o0 < ((x0).length : Int))) then
   jn (σ:=Unit) (fun _=>
    k19 ((w64 (o0 + (1:Int))))
    ) fun k28=>
   (idx x0 o0).bind fun i7=>
   (x1 i7).bind fun v8=>
   bif v8 then
    some (o0)
   else
    k28 ()
  else
   k18 ()
  ) big ((0:Int))
theorem en117:Enters Tryz.prog 117:=enters_of Tryz.func117 (by kernel_rfl) rfl
theorem wk117 {gI:Gh} {wI:World} {x0:List Int} {x1:Int→Option Bool} {up0:Value} (rp0:RV gI.m wI x0 up0) {up1:Value} (rp1:FnV1 Tryz.prog x1 up1 gI wI) {r:Int} (h:f117 x0 x1=some r):Fn Tryz.prog 117 #[up0,up1] gI wI (fun _ _ v=>v=.int .i64 (r)):=by
 unfold f117 at h
 refine fn_of_E Tryz.func117 rfl (Nat.le_of_ble_eq_true rfl) fun g0 hm hfr=>?_
 have rp0:RV g0.m wI x0 up0:=hm ▸ rp0
 obtain ⟨ff1,fa1,fc1,rfl,fen1,fcl1⟩:=rp1
 show E _ 19 none _ _ _ _ _
 refine Zf (Za (Zg (.int .i64 (0)) rfl rfl ?_))
 refine Zb (Zd (Zq h (fun (s:Unit) e w=>∃ (g:Gh) ,Fr gI wI g w) (fun X18 k18 x8 h=>?_) ?_))
 ·refine Zf (Za (Zn up0 rfl rfl ?_))
  refine EL_p (.int .i64 ((x0).length:Int)) (P_len Tryz.underlying28 rfl rp0) rfl ?_
  refine Zn (.int .i64 (0)) rfl rfl ?_
  refine Zb (Zd (Zr ?_))
  refine E_lp h (fun (s:Int) e w=>∃ (g:Gh) ,Fr gI wI g w∧e 0=up0∧RV g.m w (x0:List Int) up0∧e 1=(.func (.func ff1) fa1 fc1)∧e 7=.int .i64 (((x0).length:Int))∧e 8=.int .i64 (s)) ⟨g0,hfr,rfl,rp0,rfl,rfl,rfl⟩ (fun X19 k19 a9=>?_)
  rintro o0 z9 rA ⟨m7,hfr,i6,u3,x6,y6,l5⟩ h
  refine Zf (Za (EL_in (.bool ((decide (o0 < ((x0).length:Int))))) l5 y6 rfl rfl ?_))
  refine Zb (Zd (Zf ?_))
  rcases Zt h with ⟨t5,h⟩ | ⟨t5,h⟩
  ·refine E_ct t5 rfl ?_
   refine Zu (Zd (Zq h (fun (s:Unit) e w=>∃ (g:Gh) ,Fr gI wI g w∧e 0=up0∧RV g.m w (x0:List Int) up0∧e 1=(.func (.func ff1) fa1 fc1)∧e 7=.int .i64 (((x0).length:Int))∧e 8=.int .i64 (o0)) (fun X28 k28 d9 h=>?_) ?_))
   ·refine Zr ?_
    refine Zf (Za (Zo l5 rfl ?_))
    refine Zg (.int .i64 (o0)) rfl rfl ?_
    refine Zb (Zd (Zf (Za (Zo x6 rfl ?_))))
    refine Zo i6 rfl ?_
    refine Zn (.int .i64 (o0)) rfl rfl ?_
    obtain ⟨i7,g8,h⟩:=bsome h
    refine EL_p (ePtr up0 o0 1) (Zh (α:=Int) Tryz.underlying28 Tryz.sizeOf3 rfl u3 rfl g8) rfl ?_
    have l9:=PT_idx u3 g8
    refine Ze .plain rfl (D_load (g:=m7) Tryz.isAgg3 Tryz.sizeOf3 rfl l9 fun yA n9=>?_)
    obtain rfl:=Zj.1 n9
    obtain ⟨v8,k9,h⟩:=bsome h
    refine Ze .plain rfl (D_callv (g:=m7) (vs:=[.int .i64 (i7)]) rfl fen1 (.cons rfl .nil) (fcl1 _ _ hfr.ch _ _ _  (Zj.2 rfl) k9) fun u9 aB dB hs hr=>?_)
    have hfr:=hfr.ext hs
    have u3:=u3.ext hs
    obtain rfl:=RV_bool.1 hr
    refine Zb (Zd ?_)
    rcases Zt h with ⟨x5,h⟩ | ⟨x5,h⟩
    ·refine E_ct x5 rfl ?_
     refine Zf (Za (Zn (.int .i64 (o0)) rfl rfl ?_))
     refine Zg (.int .i64 (o0)) rfl rfl ?_
     refine Zb (Zd (E_ret (blk_r ?_)))
     refine thn_r ?_
     refine thn_r ?_
     refine blk_r ?_
     refine thn_r ?_
     obtain rfl:=sinj h
     exact end1 rfl rfl (show _=.int .i64 (o0) from rfl) ⟨_,hfr,rfl⟩
    ·refine E_cf x5 rfl ?_
     exact Zu (blk_n (Zd (d9 () _ _ ⟨u9,hfr,i6,u3,x6,y6,l5⟩ h)))
   ·rintro _ bA iB ⟨y9, hfr, k8, l8, m8, n8, r8⟩ h
    refine Za (EL_in (.int .i64 ((w64 (o0 + (1:Int))))) r8 rfl rfl rfl ?_)
    refine Zn (.int .i64 ((w64 (o0 + (1:Int))))) rfl rfl ?_
    exact Zb (Zd (a9 ((w64 (o0 + (1:Int)))) _ _ ⟨y9,hfr,k8,l8,m8,n8,rfl⟩ h))
  ·refine E_cf t5 rfl ?_
   refine E_exit ?_
   refine thn_e ?_
   refine thn_e ?_
   refine blk_hit ?_
   exact Zd (x8 () _ _ ⟨m7,hfr⟩ h)
 ·rintro _ iA lB ⟨mB, hfr⟩ h
  refine Zf (Za (Zg (.int .i64 (-1)) rfl rfl ?_))
  refine Zb (Zd (E_ret ?_))
  obtain rfl:=sinj h
  exact end1 rfl rfl (show _=.int .i64 (-1) from rfl) ⟨_,hfr,rfl⟩
theorem v68_0 {iO:Nat} {gI:Gh} {wI:World} {x0:List Int} {up0:Value} (rp0:RV gI.m wI x0 up0) {r:List Int} (h:f68 x0=some r):FnG Tryz.prog 68 #[up0] gI wI (fun g w v=>OM iO g w 3 r v):=by
 unfold f68 at h
 refine fnG_of_E Tryz.func68 rfl (Nat.le_of_ble_eq_true rfl) fun g0 hm hfr=>?_
 have rp0:RV g0.m wI x0 up0:=hm ▸ rp0
 show E _ 8 none _ _ _ _ _
 refine Zf (Za (Zg (.slice none 0 0) rfl rfl (Zb (Zd ?_))))
 refine Zf (Zf (Za (Zn up0 rfl rfl ?_)))
 obtain ⟨a,c,hv,hc,hrow⟩:=RV_list rp0
 refine EL_p (.bool a.isNone) (P_slnil Tryz.underlying28 (show ev _ _=_ from hv)) rfl (Zb (Zd ?_))
 cases a with
 | none=>
  have hx:x0=[]:=by
   cases x0 with
   | nil=>rfl
   | cons y ys=>obtain ⟨b,off,hb,_⟩:=hrow (by simp); cases hb
  subst hx
  have hr:r=[]:=by unfold apnd at h; split at h <;> simp at h; exact h
  subst hr
  refine E_cond_true rfl (Zf (Za ?_))
  refine Zg (.slice none 0 0) rfl rfl (Zb (Zd ?_))
  obtain ⟨gh,hxh,homh⟩:=OM.handn (i:=iO) (t:=3) (α:=Int) hfr; exact E_ret (thn_r (end1 rfl rfl (show _=.slice none 0 0 from rfl) ⟨gh,hxh,homh⟩))
 | some a=>
  refine E_cond_false rfl (Zu (Zd ?_))
  refine Zf (Za (Ze .plain rfl (D_buildSlice (g:=g0) 1 (xs:=([]:List Int)) (vs:=[]) Tryz.underlying28 Tryz.sizeOf3 Tryz.zeroValue3 rfl rfl .nil RVs.nil rfl rfl fun g1 w1 v1 hs o1 r1 hxt hfl=>?_)))
  have hfr:=hfr.stp hs
  have rp0:=rp0.stp hs
  refine Zn up0 rfl rfl ?_
  refine Ze .plain rfl (D_append (g:=g1) (i:=1) Tryz.underlying28 info_3 rfl rfl o1 r1 rfl rp0 h fun g2 w2 v2 hs o2 r2 _=>?_)
  have hfr:=hfr.stp hs
  refine Zg v2 rfl rfl (Zb (Zd ?_))
  obtain ⟨gh,hxh,homh⟩:=OM.hand (i:=iO) plain_int hfr o2 r2; exact E_ret (end1 rfl rfl (show _=v2 from rfl) ⟨gh,hxh,homh⟩)
def f134 (x0:Int) (z0:Int) (z1:Int):Option (Bool):=
 Option.bind (α:=Bool) (
  bif (decide (x0 < z0)) then
   some (true)
  else
   some ((decide (x0 > z1)))
  ) fun o0=>
 some (o0)
theorem en134:Enters Tryz.prog 134:=enters_of Tryz.func134 (by kernel_rfl) rfl
theorem wk134 {gI:Gh} {wI:World} {x0:Int} {z0:Int} {z1:Int} {pf0:Value} (qf0:PT gI.m wI z0 pf0) {pf1:Value} (qf1:PT gI.m wI z1 pf1) {r:Bool} (h:f134 x0 z0 z1=some r):Fn Tryz.prog 134 #[.int .i64 (x0),pf0,pf1] gI wI (fun _ _ v=>v=.bool (r)):=by
 unfold f134 at h
 refine fn_of_E Tryz.func134 rfl (Nat.le_of_ble_eq_true rfl) fun g0 hm hfr=>?_
 have qf0:PT g0.m wI z0 pf0:=hm ▸ qf0
 have qf1:PT g0.m wI z1 pf1:=hm ▸ qf1
 show E _ 13 none _ _ _ _ _
 refine Zf (Za (Zg (.bool false) rfl rfl ?_))
 refine Zb (Zd ?_)
 obtain ⟨o0,hx,h⟩:=bsome h
 refine E_join (fun e w=>∃ (g:Gh) ,Fr gI wI g w∧e 4=.bool (o0)) (fun Q' hQ=>?_) (fun l5 w7 hR=>?_)
 ·replace h := hx
  clear hx
  refine Za (Zn (.int .i64 (x0)) rfl rfl ?_)
  refine Ze .plain rfl (D_load (g:=g0) Tryz.isAgg3 Tryz.sizeOf3 rfl qf0 fun v4 r4=>?_)
  obtain rfl:=Zj.1 r4
  refine EL_in (.bool ((decide (x0 < z0)))) rfl rfl rfl rfl ?_
  refine Zn (.bool ((decide (x0 < z0)))) rfl rfl ?_
  rcases Zt h with ⟨hc5,h⟩ | ⟨hc5,h⟩
  ·refine EL_s rfl rfl hc5 rfl rfl ?_
   refine EL_s rfl rfl hc5 rfl rfl ?_
   refine EL_s rfl rfl hc5 rfl rfl ?_
   refine EL_p (.bool true) (Zl (b:=(decide (x0 < z0))) rfl (pick_t hc5 rfl)) rfl ?_
   refine Zg (.bool true) rfl rfl ?_
   refine Zb ?_
   obtain rfl:=sinj h
   exact hQ _ _ ⟨g0,hfr,rfl⟩
  ·refine EL_y (.int .i64 (x0)) (Zk rfl) rfl rfl hc5 rfl ?_
   refine Ze (.yes2 rfl rfl hc5) rfl (D_load (g:=g0) Tryz.isAgg3 Tryz.sizeOf3 rfl qf1 fun v6 r6=>?_)
   obtain rfl:=Zj.1 r6
   refine EL_y (.bool ((decide (x0 > z1)))) (P_int rfl rfl rfl) rfl rfl hc5 rfl ?_
   refine EL_p (.bool ((decide (x0 > z1)))) (Zl (b:=(decide (x0 < z0))) rfl (pick_f hc5 rfl)) rfl ?_
   refine Zg (.bool ((decide (x0 > z1)))) rfl rfl ?_
   refine Zb ?_
   obtain rfl:=sinj h
   exact hQ _ _ ⟨g0,hfr,rfl⟩
 ·clear hx
  obtain ⟨g7,hfr,u3⟩:=hR
  refine E_ret ?_
  obtain rfl:=sinj h
  exact end1 rfl rfl (show _=.bool (o0) from u3) ⟨_,hfr,rfl⟩
def f135 (x0:List LoomOrder) (x1:LoomOrder→Option Bool):Option (Int):=
 jn (σ:=Unit) (fun _=>
  some ((-1:Int))
  ) fun k18=>
 lp (σ:=Int) (fun k19 o0=>
  bif (decide (o0 < ((x0).length : Int))) then
   jn (σ:=Unit) (fun _=>
    k19 ((w64 (o0 + (1:Int))))
    ) fun k28=>
   (idx x0 o0).bind fun r8=>
   (x1 r8).bind fun v8=>
   bif v8 then
    some (o0)
   else
    k28 ()
  else
   k18 ()
  ) big ((0:Int))
theorem en135:Enters Tryz.prog 135:=enters_of Tryz.func135 (by kernel_rfl) rfl
theorem wk135 {gI:Gh} {wI:World} {x0:List LoomOrder} {x1:LoomOrder→Option Bool} {up0:Value} (rp0:RV gI.m wI x0 up0) {up1:Value} (rp1:FnV1 Tryz.prog x1 up1 gI wI) {r:Int} (h:f135 x0 x1=some r):Fn Tryz.prog 135 #[up0,up1] gI wI (fun _ _ v=>v=.int .i64 (r)):=by
 unfold f135 at h
 refine fn_of_E Tryz.func135 rfl (Nat.le_of_ble_eq_true rfl) fun g0 hm hfr=>?_
 have rp0:RV g0.m wI x0 up0:=hm ▸ rp0
 obtain ⟨ff1,fa1,fc1,rfl,fen1,fcl1⟩:=rp1
 show E _ 19 none _ _ _ _ _
 refine Zf (Za (Zg (.int .i64 (0)) rfl rfl ?_))
 refine Zb (Zd (Zq h (fun (s:Unit) e w=>∃ (g:Gh) ,Fr gI wI g w) (fun X18 k18 x8 h=>?_) ?_))
 ·refine Zf (Za (Zn up0 rfl rfl ?_))
  refine EL_p (.int .i64 ((x0).length:Int)) (P_len Tryz.underlying31 rfl rp0) rfl ?_
  refine Zn (.int .i64 (0)) rfl rfl ?_
  refine Zb (Zd (Zr ?_))
  refine E_lp h (fun (s:Int) e w=>∃ (g:Gh) ,Fr gI wI g w∧e 0=up0∧RV g.m w (x0:List LoomOrder) up0∧e 1=(.func (.func ff1) fa1 fc1)∧e 7=.int .i64 (((x0).length:Int))∧e 8=.int .i64 (s)) ⟨g0,hfr,rfl,rp0,rfl,rfl,rfl⟩ (fun X19 k19 a9=>?_)
  rintro o0 bA yA ⟨i7,hfr,i6,u3,x6,y6,l5⟩ h
  refine Zf (Za (EL_in (.bool ((decide (o0 < ((x0).length:Int))))) l5 y6 rfl rfl ?_))
  refine Zb (Zd (Zf ?_))
  rcases Zt h with ⟨t5,h⟩ | ⟨t5,h⟩
  ·refine E_ct t5 rfl ?_
   refine Zu (Zd (Zq h (fun (s:Unit) e w=>∃ (g:Gh) ,Fr gI wI g w∧e 0=up0∧RV g.m w (x0:List LoomOrder) up0∧e 1=(.func (.func ff1) fa1 fc1)∧e 7=.int .i64 (((x0).length:Int))∧e 8=.int .i64 (o0)) (fun X28 k28 d9 h=>?_) ?_))
   ·refine Zr ?_
    refine Zf (Za (Zo l5 rfl ?_))
    refine Zg (.int .i64 (o0)) rfl rfl ?_
    refine Zb (Zd (Zf (Za (Zo x6 rfl ?_))))
    refine Zo i6 rfl ?_
    refine Zn (.int .i64 (o0)) rfl rfl ?_
    obtain ⟨r8,m7,h⟩:=bsome h
    refine EL_p (ePtr up0 o0 5) (Zh (α:=LoomOrder) Tryz.underlying31 Tryz.sizeOf49 rfl u3 rfl m7) rfl ?_
    have l9:=PT_idx u3 m7
    refine Ze .plain rfl (D_load (g:=i7) Tryz.isAgg49 Tryz.sizeOf49 rfl l9 fun n9 u9=>?_)
    obtain ⟨v8,k9,h⟩:=bsome h
    refine Ze .plain rfl (D_callv (g:=i7) (vs:=[n9]) rfl fen1 (.cons rfl .nil) (fcl1 _ _ hfr.ch _ _ _  u9 k9) fun y9 aB dB hs hr=>?_)
    have hfr:=hfr.ext hs
    have u3:=u3.ext hs
    obtain rfl:=RV_bool.1 hr
    refine Zb (Zd ?_)
    rcases Zt h with ⟨x5,h⟩ | ⟨x5,h⟩
    ·refine E_ct x5 rfl ?_
     refine Zf (Za (Zn (.int .i64 (o0)) rfl rfl ?_))
     refine Zg (.int .i64 (o0)) rfl rfl ?_
     refine Zb (Zd (E_ret (blk_r ?_)))
     refine thn_r ?_
     refine thn_r ?_
     refine blk_r ?_
     refine thn_r ?_
     obtain rfl:=sinj h
     exact end1 rfl rfl (show _=.int .i64 (o0) from rfl) ⟨_,hfr,rfl⟩
    ·refine E_cf x5 rfl ?_
     exact Zu (blk_n (Zd (d9 () _ _ ⟨y9,hfr,i6,u3,x6,y6,l5⟩ h)))
   ·rintro _ iA iB ⟨z9, hfr, g8, k8, l8, m8, n8⟩ h
    refine Za (EL_in (.int .i64 ((w64 (o0 + (1:Int))))) n8 rfl rfl rfl ?_)
    refine Zn (.int .i64 ((w64 (o0 + (1:Int))))) rfl rfl ?_
    exact Zb (Zd (a9 ((w64 (o0 + (1:Int)))) _ _ ⟨z9,hfr,g8,k8,l8,m8,rfl⟩ h))
  ·refine E_cf t5 rfl ?_
   refine E_exit ?_
   refine thn_e ?_
   refine thn_e ?_
   refine blk_hit ?_
   exact Zd (x8 () _ _ ⟨i7,hfr⟩ h)
 ·rintro _ rA lB ⟨mB, hfr⟩ h
  refine Zf (Za (Zg (.int .i64 (-1)) rfl rfl ?_))
  refine Zb (Zd (E_ret ?_))
  obtain rfl:=sinj h
  exact end1 rfl rfl (show _=.int .i64 (-1) from rfl) ⟨_,hfr,rfl⟩
def f137 (z0:Int) (σ:Type) (cons:Cons σ Int) (s0:σ):Option σ:=
 lp (σ:=σ × Int) (fun k2 (n8,o0)=>
  jn (σ:=σ) (fun i6=>
   k2 (i6,(bit64 .and (w64 (o0 - (1:Int))) z0))
   ) fun n9=>
  Option.bind (α:=σ × Bool) (
   (cons n8 o0).bind fun (x5,m7)=>
   bif (!x5) then
    some (m7,true)
   else
    some (m7,(o0 == (0:Int)))
   ) fun (t5,u3)=>
  bif u3 then
   some t5
  else
   n9 (t5)
  ) big (s0,z0)
theorem en137:Enters Tryz.prog 137:=enters_of Tryz.func137 (by kernel_rfl) rfl
theorem wk137 {σ:Type} {cons:Cons σ Int} {s0 r:σ} {gI:Gh} {wI:World} {z0:Int} {pf0:Value} (qf0:PT gI.m wI z0 pf0) (h:f137 z0 σ cons s0=some r):IterC Tryz.prog (RA1 (α:=Int)) 137 #[] #[pf0] gI wI cons s0 r:=by
 unfold f137 at h
 refine iter_of_E Tryz.func137 rfl (Nat.le_of_ble_eq_true rfl) fun l B J g0 hm hAb hRo hfr=>?_
 have qf0:PT g0.m wI z0 pf0:=hm ▸ qf0
 show E _ 17 none _ _ (envAt #[.func (.yield l) #[] #[],pf0]) _ _
 refine Zf (Za (Ze .plain rfl (D_load (g:=g0) Tryz.isAgg3 Tryz.sizeOf3 rfl qf0 fun v1 r1=>?_)))
 obtain rfl:=Zj.1 r1
 refine Zg (.int .i64 (z0)) rfl rfl ?_
 refine Zb (Zd (Zr ?_))
 refine E_lp h (fun (s:σ × Int) e w=>∃ (g:Gh) ,FrY gI wI B J (s.1) g w∧e 0=(.func (.yield l) #[] #[])∧e 1=pf0∧PT g.m w (z0:Int) pf0∧e 3=.int .i64 (s.2)) ⟨g0,hfr,rfl,rfl,qf0,rfl⟩ (fun X2 k2 hk2=>?_)
 rintro ⟨n8,o0⟩ iB w3 ⟨g3,hfr,g8,r8,x6,y6⟩ h
 refine Zq h (fun (s:σ) e w=>∃ (g:Gh) ,FrY gI wI B J (s) g w∧e 0=(.func (.yield l) #[] #[])∧e 1=pf0∧PT g.m w (z0:Int) pf0∧e 3=.int .i64 (o0)) (fun X12 n9 z9 h=>?_) ?_
 ·refine Zr ?_
  obtain ⟨⟨t5,u3⟩,hx,h⟩:=bsome h
  refine E_join (fun e w=>∃ (g:Gh) ,FrY gI wI B J (t5) g w∧e 0=(.func (.yield l) #[] #[])∧e 1=pf0∧PT g.m w (z0:Int) pf0∧e 3=.int .i64 (o0)∧e 16=.bool (u3)) (fun Q' hQ=>?_) (fun aB lB hR=>?_)
  ·replace h := hx
   clear hx
   refine Za (Zo g8 rfl ?_)
   refine Zo y6 rfl ?_
   obtain ⟨iA,bA,h⟩:=bsome h
   obtain ⟨x5,m7⟩:=iA
   refine Ze .plain rfl (D_yield (g:=g3) (x:=o0) rfl (.cons rfl .nil) hRo hfr bA ⟨_,rfl,(Zj.2 rfl)⟩ fun u9 mB hs hfrY=>?_)
   have x6:=x6.stp hs
   have hfr:=hfrY
   clear hfrY
   refine EL_p (.bool (!x5)) (P_not rfl) rfl ?_
   refine Zn (.bool (!x5)) rfl rfl ?_
   rcases Zt h with ⟨l5,h⟩ | ⟨l5,h⟩
   ·refine EL_s rfl rfl l5 rfl rfl ?_
    refine EL_s rfl rfl l5 rfl rfl ?_
    refine EL_p (.bool true) (Zl (b:=(!x5)) rfl (pick_t l5 rfl)) rfl ?_
    refine Zb ?_
    obtain ⟨rfl,rfl⟩:=pairs2 h
    exact hQ _ _ ⟨u9,hfr,g8,r8,x6,y6,rfl⟩
   ·refine EL_y (.int .i64 (o0)) (Zk y6) rfl rfl l5 rfl ?_
    refine EL_y (.bool ((o0 == (0:Int)))) (P_int rfl rfl rfl) rfl rfl l5 rfl ?_
    refine EL_p (.bool ((o0 == (0:Int)))) (Zl (b:=(!x5)) rfl (pick_f l5 rfl)) rfl ?_
    refine Zb ?_
    obtain ⟨rfl,rfl⟩:=pairs2 h
    exact hQ _ _ ⟨u9,hfr,g8,r8,x6,y6,rfl⟩
  ·clear hx
   obtain ⟨rA,hfr,v8,x8,a9,d9,i7⟩:=hR
   rcases Zt h with ⟨k8,h⟩ | ⟨k8,h⟩
   ·refine E_cond_true (Eq.trans (show ev _ _ = .bool (u3) from i7) (congrArg Value.bool k8)) ?_
    refine E_ret (blk_r ?_)
    refine thn_r ?_
    refine thn_r ?_
    refine blk_r ?_
    obtain rfl:=sinj h
    exact end0 rfl rfl (FrY.done hfr)
   ·refine E_cond_false (Eq.trans (show ev _ _ = .bool (u3) from i7) (congrArg Value.bool k8)) ?_
    exact Zu (blk_n (Zd (z9 (t5) _ _ ⟨rA,hfr,v8,x8,a9,d9⟩ h)))
 ·rintro i6 dB nB ⟨y9, hfr, k9, l8, m8, l9⟩ h
  refine Za (Zo l9 rfl ?_)
  refine EL_in (.int .i64 ((w64 (o0 - (1:Int))))) rfl rfl rfl rfl ?_
  refine Ze .plain rfl (D_load (g:=y9) Tryz.isAgg3 Tryz.sizeOf3 l8 m8 fun oB yA=>?_)
  obtain rfl:=Zj.1 yA
  refine EL_in (.int .i64 ((bit64 .and (w64 (o0 - (1:Int))) z0))) rfl rfl rfl rfl ?_
  refine Zg (.int .i64 ((bit64 .and (w64 (o0 - (1:Int))) z0))) rfl rfl ?_
  exact Zb (Zd (hk2 (i6,(bit64 .and (w64 (o0 - (1:Int))) z0)) _ _ ⟨y9,hfr,k9,l8,m8,rfl⟩ h))
def f141 (x0:List PayRate) (x1:Int) (x2:PayRate→Int→Option Int):Option (Int × Bool):=
 Option.bind (α:=Int) (
  lp (σ:=Int × Int) (fun bA (t5,u3)=>
   jn (σ:=Unit) (fun _=>
    (shr64 ((wu64 (w64 (t5 + u3)))) ((1:Int))).bind fun x5=>
    (idx x0 (w64 x5)).bind fun vB=>
    (x2 vB x1).bind fun iA=>
    bif (decide (iA < (0 : Int))) then
     bA ((w64 ((w64 x5) + (1:Int))),u3)
    else
     bA (t5,(w64 x5))
    ) fun yB=>
   bif (decide (t5 < u3)) then
    yB ()
   else
    some (t5)
   ) big ((0:Int),((x0).length:Int))
  ) fun o0=>
 Option.bind (α:=Int × Bool) (
  bif (decide (o0 < ((x0).length : Int))) then
   (idx x0 o0).bind fun zB=>
   (x2 zB x1).bind fun m8=>
   some (o0,(m8 == (0:Int)))
  else
   some (o0,false)
  ) fun (x6,y6)=>
 some (x6,y6)
theorem en141:Enters Tryz.prog 141:=enters_of Tryz.func141 (by kernel_rfl) rfl
theorem wk141 {gI:Gh} {wI:World} {x0:List PayRate} {x1:Int} {x2:PayRate→Int→Option Int} {up0:Value} (rp0:RV gI.m wI x0 up0) {up2:Value} (rp2:FnV2 Tryz.prog x2 up2 gI wI) {r:Int × Bool} (h:f141 x0 x1 x2=some r):Fn Tryz.prog 141 #[up0,.int .i64 (x1),up2] gI wI (fun m w v=>∃ y0 y1,v=.tuple #[y0,y1]∧y0=.int .i64 (r.1)∧y1=.bool (r.2)):=by
 unfold f141 at h
 refine fn_of_E Tryz.func141 rfl (Nat.le_of_ble_eq_true rfl) fun g0 hm hfr=>?_
 have rp0:RV g0.m wI x0 up0:=hm ▸ rp0
 obtain ⟨ff2,fa2,fc2,rfl,fen2,fcl2⟩:=rp2
 show E _ 49 none _ _ _ _ _
 refine Zf (Za (Zg (.int .i64 (0)) rfl rfl ?_))
 refine Zg (.bool false) rfl rfl ?_
 refine Zb (Zd (Zf (Za (Zn up0 rfl rfl ?_))))
 refine EL_p (.int .i64 ((x0).length:Int)) (P_len Tryz.underlying57 rfl rp0) rfl ?_
 refine Zg (.int .i64 ((x0).length:Int)) rfl rfl ?_
 refine Zb (Zd (Zf (Za (Zn (.int .i64 ((x0).length:Int)) rfl rfl ?_))))
 refine Zg (.int .i64 (0)) rfl rfl ?_
 refine Zg (.int .i64 ((x0).length:Int)) rfl rfl ?_
 refine Zb (Zd ?_)
 obtain ⟨o0,hx,h⟩:=bsome h
 refine E_join (fun e w=>∃ (g:Gh) ,Fr gI wI g w∧e 0=up0∧RV g.m w (x0:List PayRate) up0∧e 1=.int .i64 (x1)∧e 2=(.func (.func ff2) fa2 fc2)∧e 8=.int .i64 (((x0).length:Int))∧e 9=.int .i64 (o0)) (fun Q' hQ=>?_) (fun lD tD hR=>?_)
 ·replace h := hx
  clear hx
  refine Zr ?_
  refine E_lp h (fun (s:Int × Int) e w=>∃ (g:Gh) ,Fr gI wI g w∧e 0=up0∧RV g.m w (x0:List PayRate) up0∧e 1=.int .i64 (x1)∧e 2=(.func (.func ff2) fa2 fc2)∧e 8=.int .i64 (((x0).length:Int))∧e 9=.int .i64 (s.1)∧e 10=.int .i64 (s.2)) ⟨g0,hfr,rfl,rp0,rfl,rfl,rfl,rfl,rfl⟩ (fun X14 bA rA=>?_)
  rintro ⟨t5,u3⟩ nD w15 ⟨cC,hfr,a9,d9,k9,l9,n9,i7,n8⟩ h
  refine Zq h (fun (s:Unit) e w=>∃ (g:Gh) ,Fr gI wI g w∧e 0=up0∧RV g.m w (x0:List PayRate) up0∧e 1=.int .i64 (x1)∧e 2=(.func (.func ff2) fa2 fc2)∧e 8=.int .i64 (((x0).length:Int))∧e 9=.int .i64 (t5)∧e 10=.int .i64 (u3)) (fun X17 yB rC h=>?_) ?_
  ·refine Zf (Za (Zo i7 rfl ?_))
   refine Zo n8 rfl ?_
   refine EL_in (.bool ((decide (t5 < u3)))) rfl rfl rfl rfl ?_
   refine Zb (Zd ?_)
   rcases Zt h with ⟨v8,h⟩ | ⟨v8,h⟩
   ·refine E_ct v8 rfl ?_
    exact Zu (Zd (rC () _ _ ⟨cC,hfr,a9,d9,k9,l9,n9,i7,n8⟩ h))
   ·refine E_cf v8 rfl ?_
    refine E_exit ?_
    refine thn_e ?_
    refine thn_e ?_
    refine blk_hit ?_
    obtain rfl:=sinj h
    exact hQ _ _ ⟨cC,hfr,a9,d9,k9,l9,n9,i7⟩
  ·rintro _ oD uD ⟨mC, hfr, m7, i6, g8, k8, u9, y9, r8⟩ h
   refine Zr ?_
   refine Zf (Za (Zo y9 rfl ?_))
   refine Zo r8 rfl ?_
   refine EL_in (.int .i64 ((w64 (t5 + u3)))) rfl rfl rfl rfl ?_
   refine EL_p (.int .u64 (wu64 (w64 (t5 + u3)))) (P_intu64 Tryz.underlying3 Tryz.underlying92 rfl) rfl ?_
   obtain ⟨x5,hy20,h⟩:=bsome h
   refine EL_p (.int .u64 (x5)) (P_shrU rfl rfl hy20) rfl ?_
   refine EL_p (.int .i64 ((w64 x5))) (P_u64int Tryz.underlying92 Tryz.underlying3 rfl) rfl ?_
   refine Zg (.int .i64 ((w64 x5))) rfl rfl ?_
   refine Zb (Zd (Zf (Za (Zo k8 rfl ?_))))
   refine Zo m7 rfl ?_
   refine Zn (.int .i64 ((w64 x5))) rfl rfl ?_
   obtain ⟨vB,yA,h⟩:=bsome h
   refine EL_p (ePtr up0 (w64 x5) 2) (Zh (α:=PayRate) Tryz.underlying57 Tryz.sizeOf148 rfl i6 rfl yA) rfl ?_
   have aD:=PT_idx i6 yA
   refine Ze .plain rfl (D_load (g:=mC) Tryz.isAgg148 Tryz.sizeOf148 rfl aD fun bD cD=>?_)
   refine Zo g8 rfl ?_
   obtain ⟨iA,uC,h⟩:=bsome h
   refine Ze .plain rfl (D_callv (g:=mC) (vs:=[bD,.int .i64 (x1)]) rfl fen2 (.cons rfl (.cons rfl .nil)) (fcl2 _ _ hfr.ch _ _ _ _ _  cD (Zj.2 rfl) uC) fun qC vD xD hs hr=>?_)
   have hfr:=hfr.ext hs
   have i6:=i6.ext hs
   obtain rfl:=Zj.1 hr
   refine EL_in (.bool ((decide (iA < (0:Int))))) rfl rfl rfl rfl ?_
   refine Zb (Zd ?_)
   rcases Zt h with ⟨x8,h⟩ | ⟨x8,h⟩
   ·refine E_ct x8 rfl ?_
    refine Za (Zn (.int .i64 ((w64 x5))) rfl rfl ?_)
    refine EL_in (.int .i64 ((w64 ((w64 x5) + (1:Int))))) rfl rfl rfl rfl ?_
    refine Zg (.int .i64 ((w64 ((w64 x5) + (1:Int))))) rfl rfl ?_
    exact Zb (blk_n (Zd (rA ((w64 ((w64 x5) + (1:Int))),u3) _ _ ⟨qC,hfr,m7,i6,g8,k8,u9,rfl,r8⟩ h)))
   ·refine E_cf x8 rfl ?_
    refine Za (Zn (.int .i64 ((w64 x5))) rfl rfl ?_)
    refine Zg (.int .i64 ((w64 x5))) rfl rfl ?_
    exact Zb (blk_n (Zd (rA (t5,(w64 x5)) _ _ ⟨qC,hfr,m7,i6,g8,k8,u9,y9,rfl⟩ h)))
 ·clear hx
  obtain ⟨aB,hfr,iB,z9,lB,mB,nB,l8⟩:=hR
  obtain ⟨⟨x6,y6⟩,hx,h⟩:=bsome h
  refine E_join (fun e w=>∃ (g:Gh) ,Fr gI wI g w∧e 6=.int .i64 (x6)∧e 7=.bool (y6)) (fun Q' hQ=>?_) (fun sD yD hR=>?_)
  ·replace h := hx
   clear hx
   refine Za (Zo l8 rfl ?_)
   refine Zo l8 rfl ?_
   refine Zo nB rfl ?_
   refine EL_in (.bool ((decide (o0 < ((x0).length:Int))))) rfl rfl rfl rfl ?_
   refine Zn (.bool ((decide (o0 < ((x0).length:Int))))) rfl rfl ?_
   rcases Zt h with ⟨l5,h⟩ | ⟨l5,h⟩
   ·refine EL_y ((.func (.func ff2) fa2 fc2)) (Zk mB) rfl rfl l5 rfl ?_
    refine EL_y up0 (Zk iB) rfl rfl l5 rfl ?_
    refine EL_y (.int .i64 (o0)) (Zk l8) rfl rfl l5 rfl ?_
    obtain ⟨zB,dB,h⟩:=bsome h
    refine EL_y (ePtr up0 o0 2) (Zh (α:=PayRate) Tryz.underlying57 Tryz.sizeOf148 rfl z9 rfl dB) rfl rfl l5 rfl ?_
    have eD:=PT_idx z9 dB
    refine Ze (.yes2 rfl rfl l5) rfl (D_load (g:=aB) Tryz.isAgg148 Tryz.sizeOf148 rfl eD fun gD iD=>?_)
    refine EL_y (.int .i64 (x1)) (Zk lB) rfl rfl l5 rfl ?_
    obtain ⟨m8,vC,h⟩:=bsome h
    refine Ze (.yes2 rfl rfl l5) rfl (D_callv (g:=aB) (vs:=[gD,.int .i64 (x1)]) rfl fen2 (.cons rfl (.cons rfl .nil)) (fcl2 _ _ hfr.ch _ _ _ _ _  iD (Zj.2 rfl) vC) fun jD zD aE hs hr=>?_)
    have hfr:=hfr.ext hs
    obtain rfl:=Zj.1 hr
    refine EL_y (.bool ((m8 == (0:Int)))) (P_int rfl rfl rfl) rfl rfl l5 rfl ?_
    refine EL_p (.bool ((m8 == (0:Int)))) (Zl (b:=(decide (o0 < ((x0).length:Int)))) rfl (pick_t l5 rfl)) rfl ?_
    refine Zg (.int .i64 (o0)) rfl rfl ?_
    refine Zg (.bool ((m8 == (0:Int)))) rfl rfl ?_
    refine Zb ?_
    obtain ⟨rfl,rfl⟩:=pairs2 h
    exact hQ _ _ ⟨jD,hfr,rfl,rfl⟩
   ·refine EL_s rfl rfl l5 rfl rfl ?_
    iterate 7 refine EL_s rfl rfl l5 rfl rfl ?_
    refine EL_p (.bool false) (Zl (b:=(decide (o0 < ((x0).length:Int)))) rfl (pick_f l5 rfl)) rfl ?_
    refine Zg (.int .i64 (o0)) rfl rfl ?_
    refine Zg (.bool false) rfl rfl ?_
    refine Zb ?_
    obtain ⟨rfl,rfl⟩:=pairs2 h
    exact hQ _ _ ⟨aB,hfr,rfl,rfl⟩
  ·clear hx
   obtain ⟨bE,hfr,oB,tB⟩:=hR
   refine E_ret ?_
   obtain rfl:=sinj h
   exact end2 rfl rfl (show _=.int .i64 (x6) from oB) (show _=.bool (y6) from tB) ⟨_,hfr,_,_,rfl,rfl,rfl⟩
def f146 (x0:List Int) (x1:Int) (x2:Int) (x3:Int→Int→Option Int):Option ((List Int)):=
 lp (σ:=(List Int) × Int) (fun k1 (a9,x5)=>
  jn (σ:=Unit) (fun _=>
   Option.bind (α:=(List Int)) (
    lp (σ:=(List Int) × Int) (fun tB (l5,o0)=>
     jn (σ:=Unit) (fun _=>
      Option.bind (α:=(List Int)) (
       (idx l5 (w64 (o0 - (1:Int)))).bind fun r8=>
       (idx l5 o0).bind fun d9=>
       (idx l5 o0).bind fun xE=>
       (idx ((List.set l5 (Int.toNat o0) r8)) (w64 (o0 - (1:Int)))).bind fun yE=>
       some ((List.set ((List.set l5 (Int.toNat o0) r8)) (Int.toNat (w64 (o0 - (1:Int)))) d9))
       ) fun g8=>
      tB (g8,(w64 (o0 - (1:Int))))
      ) fun vB=>
     Option.bind (α:=Bool) (
      bif (decide (o0 > x1)) then
       (idx l5 o0).bind fun k9=>
       (idx l5 (w64 (o0 - (1:Int)))).bind fun l9=>
       (x3 k9 l9).bind fun n8=>
       some ((decide (n8 < (0:Int))))
      else
       some (false)
      ) fun x6=>
     bif x6 then
      vB ()
     else
      some (l5)
     ) big (a9,x5)
    ) fun k8=>
   k1 (k8,(w64 (x5 + (1:Int))))
   ) fun k4=>
  bif (decide (x5 < x2)) then
   k4 ()
  else
   some (a9)
  ) big (x0,(w64 (x1 + (1:Int))))
theorem en146:Enters Tryz.prog 146:=enters_of Tryz.func146 (by kernel_rfl) rfl
theorem wk146 {iI:Nat} {gI:Gh} {wI:World} {x0:List Int} {x1:Int} {x2:Int} {x3:Int→Int→Option Int} {up0:Value} (mp0:OM iI gI wI 3 x0 up0) {up3:Value} (rp3:FnV2 Tryz.prog x3 up3 gI wI) {r:(List Int)} (h:f146 x0 x1 x2 x3=some r):FnM Tryz.prog 146 #[up0,.int .i64 (x1),.int .i64 (x2),up3] iI gI wI (fun g w v=>v=.tuple #[]∧OM iI g w 3 r up0):=by
 unfold f146 at h
 refine fnM_of_E Tryz.func146 rfl (Nat.le_of_ble_eq_true rfl) fun g0 hm hfr=>?_
 have bE:=mp0
 replace mp0:=mp0.enter
 rw [← hm] at mp0
 replace hm:g0.m=gI.m:=by rw [hm]
 obtain ⟨ff3,fa3,fc3,rfl,fen3,fcl3⟩:=rp3
 show E _ 53 none _ _ _ _ _
 refine Zf (Za (Zn (.int .i64 (x1)) rfl rfl ?_))
 refine EL_in (.int .i64 ((w64 (x1 + (1:Int))))) rfl rfl rfl rfl ?_
 refine Zg (.int .i64 ((w64 (x1 + (1:Int))))) rfl rfl ?_
 refine Zb (Zd (Zr ?_))
 refine E_lp h (fun (s:(List Int) × Int) e w=>∃ (g:Gh) ,FrM iI gI wI g w∧e 0=up0∧OM 1 g w 3 (s.1:List Int) up0∧e 1=.int .i64 (x1)∧e 2=.int .i64 (x2)∧e 3=(.func (.func ff3) fa3 fc3)∧e 8=.int .i64 (s.2)) ⟨g0,hfr,rfl,mp0,rfl,rfl,rfl,rfl⟩ (fun X1 k1 hk1=>?_)
 rintro ⟨a9,x5⟩ pH w2 ⟨g2,hfr,zE,yB,cF,zB,dF,cC⟩ h
 refine Zq h (fun (s:Unit) e w=>∃ (g:Gh) ,FrM iI gI wI g w∧e 0=up0∧OM 1 g w 3 (a9:List Int) up0∧e 1=.int .i64 (x1)∧e 2=.int .i64 (x2)∧e 3=(.func (.func ff3) fa3 fc3)∧e 8=.int .i64 (x5)) (fun X4 k4 hk4 h=>?_) ?_
 ·refine Zf (Za (Zo cC rfl ?_))
  refine Zo zB rfl ?_
  refine EL_in (.bool ((decide (x5 < x2)))) rfl rfl rfl rfl ?_
  refine Zb (Zd ?_)
  rcases Zt h with ⟨hc5,h⟩ | ⟨hc5,h⟩
  ·refine E_ct hc5 rfl ?_
   exact Zu (Zd (hk4 () _ _ ⟨g2,hfr,zE,yB,cF,zB,dF,cC⟩ h))
  ·refine E_cf hc5 rfl ?_
   refine E_exit ?_
   refine thn_e ?_
   refine thn_e ?_
   refine blk_hit ?_
   obtain rfl:=sinj h
   exact end0n rfl rfl ⟨_,hfr,rfl,bE.back yB⟩
 ·rintro _ qH w6 ⟨g6, hfr, eF, rF, sF, tF, uF, mC⟩ h
  obtain ⟨k8,hx,h⟩:=bsome h
  refine E_join (fun e w=>∃ (g:Gh) ,FrM iI gI wI g w∧e 0=up0∧OM 1 g w 3 (k8:List Int) up0∧e 1=.int .i64 (x1)∧e 2=.int .i64 (x2)∧e 3=(.func (.func ff3) fa3 fc3)∧e 8=.int .i64 (x5)) (fun Q' hQ=>?_) (fun kG yG hR=>?_)
  ·replace h := hx
   clear hx
   refine Zr ?_
   refine Zf (Za (Zo mC rfl ?_))
   refine Zg (.int .i64 (x5)) rfl rfl ?_
   refine Zb (Zd (Zr ?_))
   refine E_lp h (fun (s:(List Int) × Int) e w=>∃ (g:Gh) ,FrM iI gI wI g w∧e 0=up0∧OM 1 g w 3 (s.1:List Int) up0∧e 1=.int .i64 (x1)∧e 2=.int .i64 (x2)∧e 3=(.func (.func ff3) fa3 fc3)∧e 8=.int .i64 (x5)∧e 9=.int .i64 (s.2)) ⟨g6,hfr,eF,rF,sF,tF,uF,mC,rfl⟩ (fun X297 tB iE=>?_)
   rintro ⟨l5,o0⟩ lG zG ⟨qC,hfr,l8,t5,m8,u9,v8,y9,y6⟩ h
   refine Zq h (fun (s:Unit) e w=>∃ (g:Gh) ,FrM iI gI wI g w∧e 0=up0∧OM 1 g w 3 (l5:List Int) up0∧e 1=.int .i64 (x1)∧e 2=.int .i64 (x2)∧e 3=(.func (.func ff3) fa3 fc3)∧e 8=.int .i64 (x5)∧e 9=.int .i64 (o0)) (fun X411 vB lE h=>?_) ?_
   ·obtain ⟨x6, hx, h⟩ := bsome h
    refine E_join (fun e w=>∃ (g:Gh) ,FrM iI gI wI g w∧e 0=up0∧OM 1 g w 3 (l5:List Int) up0∧e 1=.int .i64 (x1)∧e 2=.int .i64 (x2)∧e 3=(.func (.func ff3) fa3 fc3)∧e 8=.int .i64 (x5)∧e 9=.int .i64 (o0)∧e 34=.bool (x6)) (fun Q' hQ=>?_) (fun mG aH hR=>?_)
    ·replace h := hx
     clear hx
     rcases Zt h with ⟨u3,h⟩ | ⟨u3,h⟩
     ·obtain ⟨k9, dB, h⟩ := bsome h
      refine L_loadM (x:=.tmp 25) Tryz.isAgg3 Tryz.sizeOf3 t5 dB fun cH vF mE=>?_
      obtain rfl:=Zj.1 vF
      obtain ⟨l9,iB,h⟩:=bsome h
      refine L_loadM (x:=.tmp 30) Tryz.isAgg3 Tryz.sizeOf3 t5 iB fun dH xF oE=>?_
      obtain rfl:=Zj.1 xF
      obtain ⟨n8,rE,h⟩:=bsome h
      refine E_drawL (g:=qC) (n:=17) [(14,(fun v g w=>v=.int .i64 (n8)))] [0,1,2,3,4,5,6,7,8,9,10,11,12,13,14,15,16] rfl mixed (by kernel_rfl) (⟨fun _=>up_eq _,trivial⟩) ?_
      refine L_p (.int .i64 (o0)) rfl rfl (Zk y6) ?_
      refine L_p (.int .i64 (x1)) rfl rfl (Zk m8) ?_
      refine L_p (.bool ((decide (o0 > x1)))) rfl rfl (P_int rfl rfl rfl) ?_
      refine L_p (.bool ((decide (o0 > x1)))) rfl rfl (Zk rfl) ?_
      refine L_y ((.func (.func ff3) fa3 fc3)) rfl rfl rfl rfl u3 (Zk v8) ?_
      refine L_y up0 rfl rfl rfl rfl u3 (Zk l8) ?_
      refine L_y (.int .i64 (o0)) rfl rfl rfl rfl u3 (Zk y6) ?_
      refine L_y (ePtr up0 o0 1) rfl rfl rfl rfl u3 (P_indexAddrM (α:=Int) Tryz.underlying28 Tryz.sizeOf3 rfl t5 rfl dB) ?_
      refine L_ld (c:=.int .i64 (k9)) rfl rfl (.yes2 rfl rfl u3) (fun _ _ h=>⟨h.ch,fun b hb _=>h.below.block b hb⟩) mE rfl ?_
      refine L_y up0 rfl rfl rfl rfl u3 (Zk l8) ?_
      refine L_y (.int .i64 (o0)) rfl rfl rfl rfl u3 (Zk y6) ?_
      refine L_y (.int .i64 ((w64 (o0 - (1:Int))))) rfl rfl rfl rfl u3 (P_int rfl rfl rfl) ?_
      refine L_y (ePtr up0 (w64 (o0 - (1:Int))) 1) rfl rfl rfl rfl u3 (P_indexAddrM (α:=Int) Tryz.underlying28 Tryz.sizeOf3 rfl t5 rfl iB) ?_
      refine L_ld (c:=.int .i64 (l9)) rfl rfl (.yes2 rfl rfl u3) (fun _ _ h=>⟨h.ch,fun b hb _=>h.below.block b hb⟩) oE rfl ?_
      refine L_do (φ:=fun v g w=>v=.int .i64 (n8)) rfl rfl (.yes2 rfl rfl u3) (fun g w hd=>D_callv (g:=g) (vs:=[.int .i64 (k9),.int .i64 (l9)]) rfl fen3 (.cons rfl (.cons rfl .nil)) (fcl3 _ _ (hfr.ext hd.1).ch _ _ _ _ _  (Zj.2 rfl) (Zj.2 rfl) rE) fun g' w' v hs hr=>⟨g',hs,Zj.1 hr⟩) (fun gH hv=>?_)
      obtain ⟨_,_,_,rfl⟩:=hv
      refine L_y (.bool ((decide (n8 < (0:Int))))) rfl rfl rfl rfl u3 (P_int rfl rfl rfl) ?_
      refine L_p (.bool ((decide (n8 < (0:Int))))) rfl rfl (Zl (b:=(decide (o0 > x1))) rfl (pick_t u3 rfl)) ?_
      refine L_nl fun yF iH hs=>?_
      have hfr:=hfr.ext hs
      have t5:=t5.ext hs
      clear hs
      refine Zb ?_
      obtain rfl:=sinj h
      exact hQ _ _ ⟨yF,hfr,l8,t5,m8,u9,v8,y9,y6,rfl⟩
     ·refine E_drawL (g := qC) (n := 17) [] [0, 1, 2, 3, 4, 5, 6, 7, 8, 9, 10, 11, 12, 13, 14, 15, 16] rfl mixed (by kernel_rfl) trivial ?_
      refine L_p (.int .i64 (o0)) rfl rfl (Zk y6) ?_
      refine L_p (.int .i64 (x1)) rfl rfl (Zk m8) ?_
      refine L_p (.bool ((decide (o0 > x1)))) rfl rfl (P_int rfl rfl rfl) ?_
      refine L_p (.bool ((decide (o0 > x1)))) rfl rfl (Zk rfl) ?_
      iterate 12 refine L_s rfl rfl rfl u3 rfl ?_
      refine L_p (.bool false) rfl rfl (Zl (b:=(decide (o0 > x1))) rfl (pick_f u3 rfl)) ?_
      refine L_nl fun zF jH hs=>?_
      have hfr:=hfr.ext hs
      have t5:=t5.ext hs
      clear hs
      refine Zb ?_
      obtain rfl:=sinj h
      exact hQ _ _ ⟨zF,hfr,l8,t5,m8,u9,v8,y9,y6,rfl⟩
    ·clear hx
     obtain ⟨rC,hfr,z9,bA,iA,rA,yA,aB,uC,x8⟩:=hR
     rcases Zt h with ⟨n9,h⟩ | ⟨n9,h⟩
     ·refine E_cond_true (Eq.trans (show ev _ _ = .bool (x6) from x8) (congrArg Value.bool n9)) ?_
      exact Zu (Zd (lE () _ _ ⟨rC,hfr,z9,bA,iA,rA,yA,aB,uC⟩ h))
     ·refine E_cond_false (Eq.trans (show ev _ _ = .bool (x6) from x8) (congrArg Value.bool n9)) ?_
      refine E_exit ?_
      refine thn_e ?_
      refine thn_e ?_
      refine blk_hit ?_
      refine blk_n ?_
      obtain rfl:=sinj h
      exact hQ _ _ ⟨rC,hfr,z9,bA,iA,rA,yA,aB⟩
   ·rintro _ sG aG ⟨vC, hfr, i7, i6, aD, bD, cD, eD, m7⟩ h
    obtain ⟨g8,hx,h⟩:=bsome h
    refine E_join (fun e w=>∃ (g:Gh) ,FrM iI gI wI g w∧e 0=up0∧OM 1 g w 3 (g8:List Int) up0∧e 1=.int .i64 (x1)∧e 2=.int .i64 (x2)∧e 3=(.func (.func ff3) fa3 fc3)∧e 8=.int .i64 (x5)∧e 9=.int .i64 (o0)) (fun Q' hQ=>?_) (fun xG kH hR=>?_)
    ·replace h := hx
     clear hx
     refine Zr ?_
     obtain ⟨r8,lB,h⟩:=bsome h
     refine L_loadM (x:=.tmp 45) Tryz.isAgg3 Tryz.sizeOf3 i6 lB fun lH bG uE=>?_
     obtain rfl:=Zj.1 bG
     obtain ⟨d9,mB,h⟩:=bsome h
     refine L_loadM (x:=.tmp 49) Tryz.isAgg3 Tryz.sizeOf3 i6 mB fun mH cG vE=>?_
     obtain rfl:=Zj.1 cG
     obtain ⟨xE,nB,h⟩:=bsome h
     refine E_drawTL (g:=vC) (n:=15) [2,3,4] [] [0,1,2,3,4,5,6,7,8,9,10,11,12,13,14] rfl mixed (by kernel_rfl) trivial rfl ?_
     refine L_p up0 rfl rfl (Zk i7) ?_
     refine L_p (.int .i64 (o0)) rfl rfl (Zk m7) ?_
     refine L_purL (c:=up0) rfl rfl .plain (Zk i7) ?_
     refine L_purL (c:=.int .i64 (o0)) rfl rfl .plain (Zk m7) ?_
     refine L_purL (c:=.int .i64 ((w64 (o0 - (1:Int))))) rfl rfl .plain (P_int rfl rfl rfl) ?_
     refine L_p up0 rfl rfl (Zk i7) ?_
     refine L_p (.int .i64 (o0)) rfl rfl (Zk m7) ?_
     refine L_p (.int .i64 ((w64 (o0 - (1:Int))))) rfl rfl (P_int rfl rfl rfl) ?_
     refine L_p (ePtr up0 (w64 (o0 - (1:Int))) 1) rfl rfl (P_indexAddrM (α:=Int) Tryz.underlying28 Tryz.sizeOf3 rfl i6 rfl lB) ?_
     refine L_ld (c:=.int .i64 (r8)) rfl rfl .plain (fun _ _ h=>⟨h.ch,fun b hb _=>h.below.block b hb⟩) uE rfl ?_
     refine L_p up0 rfl rfl (Zk i7) ?_
     refine L_p (.int .i64 (o0)) rfl rfl (Zk m7) ?_
     refine L_p (ePtr up0 o0 1) rfl rfl (P_indexAddrM (α:=Int) Tryz.underlying28 Tryz.sizeOf3 rfl i6 rfl mB) ?_
     refine L_ld (c:=.int .i64 (d9)) rfl rfl .plain (fun _ _ h=>⟨h.ch,fun b hb _=>h.below.block b hb⟩) vE rfl ?_
     refine L_p (ePtr up0 o0 1) rfl rfl (P_indexAddrM (α:=Int) Tryz.underlying28 Tryz.sizeOf3 rfl i6 rfl nB) ?_
     refine L_nl fun gD eG hs=>?_
     have hlt:Lt vC.m aG gD eG:=hs.ch
     have hfr:=hfr.ext hs
     have i6:=i6.ext hs
     clear hs
     refine TL_do hlt.w .plain rfl (D_storeM (g:=gD) (α:=Int) (a':=r8) Tryz.sizeOf3 rfl i6 nB rfl (Zj.2 rfl) fun gG nH hs b582=>?_)
     have hfr:=hfr.stp hs
     have hlt:=hlt.stp hs
     obtain ⟨yE,oB,h⟩:=bsome h
     refine TL_pur hlt.w (v:=ePtr up0 (w64 (o0 - (1:Int))) 1) (P_indexAddrM (α:=Int) Tryz.underlying28 Tryz.sizeOf3 rfl b582 rfl oB) .plain rfl ?_
     refine TL_do hlt.w .plain rfl (D_storeM (g:=gG) (α:=Int) (a':=d9) Tryz.sizeOf3 rfl b582 oB rfl (Zj.2 rfl) fun hG oH hs b584=>?_)
     have hfr:=hfr.stp hs
     have hlt:=hlt.stp hs
     refine TL_nil hlt.w ?_
     clear hlt
     refine blk_n ?_
     obtain rfl:=sinj h
     exact hQ _ _ ⟨hG,hfr,i7,b584,aD,bD,cD,eD,m7⟩
    ·clear hx
     obtain ⟨iG,hfr,iD,jD,lD,nD,oD,sD,tD⟩:=hR
     refine Za (Zo tD rfl ?_)
     refine EL_in (.int .i64 ((w64 (o0 - (1:Int))))) rfl rfl rfl rfl ?_
     refine Zg (.int .i64 ((w64 (o0 - (1:Int))))) rfl rfl ?_
     exact Zb (Zd (iE (g8,(w64 (o0 - (1:Int)))) _ _ ⟨iG,hfr,iD,jD,lD,nD,oD,sD,rfl⟩ h))
  ·clear hx
   obtain ⟨jG,hfr,uD,vD,xD,yD,zD,aE⟩:=hR
   refine Za (Zo aE rfl ?_)
   refine EL_in (.int .i64 ((w64 (x5 + (1:Int))))) rfl rfl rfl rfl ?_
   refine Zg (.int .i64 ((w64 (x5 + (1:Int))))) rfl rfl ?_
   exact Zb (Zd (hk1 (k8,(w64 (x5 + (1:Int)))) _ _ ⟨jG,hfr,uD,vD,xD,yD,zD,rfl⟩ h))
def f150 (x0:List Int):Option (Bool):=
 some ((decide (((x0).length:Int) > (6:Int))))
theorem en150:Enters Tryz.prog 150:=enters_of Tryz.func150 (by kernel_rfl) rfl
theorem wk150 {gI:Gh} {wI:World} {x0:List Int} {up0:Value} (rp0:RV gI.m wI x0 up0) {r:Bool} (h:f150 x0=some r):Fn Tryz.prog 150 #[up0] gI wI (fun _ _ v=>v=.bool (r)):=by
 unfold f150 at h
 refine fn_of_E Tryz.func150 rfl (Nat.le_of_ble_eq_true rfl) fun g0 hm hfr=>?_
 have rp0:RV g0.m wI x0 up0:=hm ▸ rp0
 show E _ 6 none _ _ _ _ _
 refine Zf (Za (Zg (.bool false) rfl rfl ?_))
 refine Zb (Zd (Zf (Za (Zn up0 rfl rfl ?_))))
 refine EL_p (.int .i64 ((x0).length:Int)) (P_len Tryz.underlying28 rfl rp0) rfl ?_
 refine EL_in (.bool ((decide (((x0).length:Int) > (6:Int))))) rfl rfl rfl rfl ?_
 refine Zg (.bool ((decide (((x0).length:Int) > (6:Int))))) rfl rfl ?_
 refine Zb (Zd (E_ret ?_))
 obtain rfl:=sinj h
 exact end1 rfl rfl (show _=.bool ((decide (((x0).length:Int) > (6:Int)))) from rfl) ⟨_,hfr,rfl⟩
def f151 (x0:List Int) (z0:PaySheet):Option (Bool):=
 some ((((x0).length:Int) != ((((z0).PayTable).Down).length:Int)))
theorem en151:Enters Tryz.prog 151:=enters_of Tryz.func151 (by kernel_rfl) rfl
theorem wk151 {gI:Gh} {wI:World} {x0:List Int} {z0:PaySheet} {up0:Value} (rp0:RV gI.m wI x0 up0) {pf0:Value} (qf0:PT gI.m wI z0 pf0) {r:Bool} (h:f151 x0 z0=some r):Fn Tryz.prog 151 #[up0,pf0] gI wI (fun _ _ v=>v=.bool (r)):=by
 unfold f151 at h
 refine fn_of_E Tryz.func151 rfl (Nat.le_of_ble_eq_true rfl) fun g0 hm hfr=>?_
 have qf0:PT g0.m wI z0 pf0:=hm ▸ qf0
 have rp0:RV g0.m wI x0 up0:=hm ▸ rp0
 show E _ 11 none _ _ _ _ _
 refine Zf (Za (Zg (.bool false) rfl rfl ?_))
 refine Zb (Zd (Zf (Za (Zn up0 rfl rfl ?_))))
 refine EL_p (.int .i64 ((x0).length:Int)) (P_len Tryz.underlying28 rfl rp0) rfl ?_
 refine EL_p (fPtr pf0 0) (Zc at_173_0 rfl (PT.ptr qf0)) rfl ?_
 have q1:=Zm (part_PaySheet_0).1 qf0
 refine EL_p (fPtr (fPtr pf0 0) 2) (Zc at_91_2 rfl (PT.ptr q1)) rfl ?_
 have q2:=Zm (part_PayTable_2).1 q1
 refine Ze .plain rfl (D_load (g:=g0) Tryz.isAgg28 Tryz.sizeOf28 rfl q2 fun v3 r3=>?_)
 refine EL_p (.int .i64 ((((z0).PayTable).Down).length:Int)) (P_len Tryz.underlying28 rfl r3) rfl ?_
 refine EL_p (.bool ((((x0).length:Int) != ((((z0).PayTable).Down).length:Int)))) (P_int rfl rfl rfl) rfl ?_
 refine EL_p (.bool ((((x0).length:Int) != ((((z0).PayTable).Down).length:Int)))) (P_assign rfl) rfl ?_
 refine Zb (Zd (E_ret ?_))
 obtain rfl:=sinj h
 exact end1 rfl rfl (show _=.bool ((((x0).length:Int) != ((((z0).PayTable).Down).length:Int))) from rfl) ⟨_,hfr,rfl⟩
def f155 (x0:LoomLoomMill) (x1:Int) (x2:Int) (x3:Int) (x4:List (Int × LoomRun)):Option (Int):=
 (idx ((x0).orders) x1).bind fun y4=>
 jn (σ:=Int) (fun o0=>
  jn (σ:=Unit) (fun _=>
   some (o0)
   ) fun aB=>
  Option.bind (α:=Bool) (
   (idx (((x0).LoomMill).Widths) x2).bind fun t5=>
   bif (decide ((y4).Width > t5)) then
    some (true)
   else
    some ((decide ((w64 (o0 + (y4).Woven)) > (y4).Late)))
   ) fun x5=>
  bif x5 then
   some ((1048576:Int))
  else
   aB ()
  ) fun dB=>
 bif ((mget x4 x1).isSome) then
  jn (σ:=Unit) (fun _=>
   dB ((((mget x4 x1).getD (⟨0,0,0⟩:LoomRun))).From)
   ) fun k60=>
  Option.bind (α:=Bool) (
   bif ((((mget x4 x1).getD (⟨0, 0, 0⟩ : LoomRun))).Loom != x2) then
    some (true)
   else
    some ((decide ((((mget x4 x1).getD (⟨0,0,0⟩:LoomRun))).From < (max64 (y4).Early x3))))
   ) fun x6=>
  bif x6 then
   some ((1048576:Int))
  else
   k60 ()
 else
  dB ((max64 (y4).Early x3))
theorem en155:Enters Tryz.prog 155:=enters_of Tryz.func155 (by kernel_rfl) rfl
theorem wk155 {gI:Gh} {wI:World} {x0:LoomLoomMill} {x1:Int} {x2:Int} {x3:Int} {x4:List (Int × LoomRun)} {up0:Value} (rp0:RV gI.m wI x0 up0) {up4:Value} (mq4:MR (Value.int .i64) gI wI x4 up4) {r:Int} (h:f155 x0 x1 x2 x3 x4=some r):Fn Tryz.prog 155 #[up0,.int .i64 (x1),.int .i64 (x2),.int .i64 (x3),up4] gI wI (fun _ _ v=>v=.int .i64 (r)):=by
 unfold f155 at h
 refine fn_of_E Tryz.func155 rfl (Nat.le_of_ble_eq_true rfl) fun g0 hm hfr=>?_
 have rp0:RV g0.m wI x0 up0:=hm ▸ rp0
 have mq4:=MQ.enter mq4 hm hfr
 show E _ 62 none _ _ _ _ _
 refine Zf (Za (Ze .plain rfl (D_box (g:=g0) rfl rp0 fun g1 w1 p1 hs q1=>?_)))
 have hfr:=hfr.ext hs
 have mq4:=mq4.ext hs
 refine Zg (.int .i64 (0)) rfl rfl ?_
 refine Zb (Zd (Zf (Za (EL_p (fPtr p1 2) (Zc at_134_1 rfl (PT.ptr q1)) rfl ?_))))
 have q2:=Zm (part_LoomLoomMill_1).1 q1
 refine Ze .plain rfl (D_load (g:=g1) Tryz.isAgg31 Tryz.sizeOf31 rfl q2 fun v3 r3=>?_)
 refine Zn (.int .i64 (x1)) rfl rfl ?_
 obtain ⟨y4,gD,h⟩:=bsome h
 refine EL_p (ePtr v3 x1 5) (Zh (α:=LoomOrder) Tryz.underlying31 Tryz.sizeOf49 rfl r3 rfl gD) rfl ?_
 have q5:=PT_idx r3 gD
 refine Ze .plain rfl (D_load (g:=g1) Tryz.isAgg49 Tryz.sizeOf49 rfl q5 fun v6 r6=>?_)
 refine Ze .plain rfl (D_allocOc (g:=g1) 2011 (⟨0,0,0,0,0⟩:LoomOrder) Tryz.zeroValue49 (fun m w=>⟨_,(rep_two rep_int (rep_two rep_int (rep_two rep_int (rep_two rep_int rep_int)))),rfl⟩) fun g7 w7 p7 hs b7 cb=>?_)
 have hfr:=hfr.stp hs
 have mq4:=mq4.stp hs
 have q1:=q1.stp hs
 have r6:=r6.stp hs
 clear cb
 refine Ze .plain rfl (D_storeOc (g:=g7) (v:=v6) Tryz.sizeOf49 rfl b7 rfl r6 fun g8 w8 hs b8 cb=>?_)
 clear cb
 have hfr:=hfr.stp hs
 have mq4:=mq4.stp hs
 have q1:=q1.stp hs
 refine Zb (Zd (Zf (Za (EL_p (fPtr p7 3) (Zc at_49_3 rfl (OB.ptr b8)) rfl ?_))))
 refine Ze .plain rfl (D_loadF (g:=g8) part_LoomOrder_3.1 Tryz.isAgg3 Tryz.sizeOf3 rfl b8 fun xF aE=>?_)
 obtain rfl:=Zj.1 aE
 refine Zn (.int .i64 (x3)) rfl rfl ?_
 refine EL_p (.int .i64 (max64 (y4).Early x3)) (P_max rfl rfl) rfl ?_
 refine Zg (.int .i64 (max64 (y4).Early x3)) rfl rfl ?_
 refine Zb (Zd (Zq h (fun (s:Int) e w=>∃ (g:Gh) ,Fr gI wI g w∧e 2=.int .i64 (x2)∧e 5=p1∧PT g.m w (x0:LoomLoomMill) p1∧e 11=p7∧OB 2011 g w 49 (y4:LoomOrder) p7∧e 12=.int .i64 (s)) (fun X43 dB iB h=>?_) ?_))
 ·refine Zf (Za (Zn up4 rfl rfl ?_))
  refine Zn (.int .i64 (x1)) rfl rfl ?_
  refine Ze .plain rfl (D_lookupOkR (g:=g8) (z0:=(⟨0,0,0⟩:LoomRun)) Tryz.underlying150 key_3 Tryz.zeroValue66 (fun m w=>⟨_,(rep_two rep_int (rep_two rep_int rep_int)),rfl⟩) rfl mq4.r rfl fun lB mB=>?_)
  refine Zn (.tuple #[lB,.bool ((mget x4 x1).isSome)]) rfl rfl ?_
  refine EL_p lB (Zi rfl rfl) rfl ?_
  refine EL_p (.bool ((mget x4 x1).isSome)) (Zi rfl rfl) rfl ?_
  refine Ze .plain rfl (D_allocOc (g:=g8) 2013 (⟨0,0,0⟩:LoomRun) Tryz.zeroValue66 (fun m w=>⟨_,(rep_two rep_int (rep_two rep_int rep_int)),rfl⟩) fun bE yF i7 hs b45 cb=>?_)
  have hfr:=hfr.stp hs
  have q1:=q1.stp hs
  have b8:=b8.stp hs rfl
  have mB:=mB.stp hs
  clear cb
  refine Ze .plain rfl (D_storeOc (g:=bE) (v:=lB) Tryz.sizeOf66 rfl b45 rfl mB fun v8 zF hs b46 cb=>?_)
  clear cb
  have hfr:=hfr.stp hs
  have q1:=q1.stp hs
  have b8:=b8.stp hs rfl
  refine Zg (.bool ((mget x4 x1).isSome)) rfl rfl ?_
  refine Zb (Zd (Zf (Za (Zn (.bool ((mget x4 x1).isSome)) rfl rfl ?_))))
  refine Zb (Zd ?_)
  rcases Zt h with ⟨d9,h⟩ | ⟨d9,h⟩
  ·refine E_ct d9 rfl ?_
   refine Zq h (fun (s:Unit) e w=>∃ (g:Gh) ,Fr gI wI g w∧e 2=.int .i64 (x2)∧e 5=p1∧PT g.m w (x0:LoomLoomMill) p1∧e 11=p7∧OB 2011 g w 49 (y4:LoomOrder) p7∧e 13=i7∧OB 2013 g w 66 (((mget x4 x1).getD (⟨0,0,0⟩:LoomRun)):LoomRun) i7) (fun X60 k60 lD h=>?_) ?_
   ·obtain ⟨x6, hx, h⟩ := bsome h
    refine E_join (fun e w=>∃ (g:Gh) ,Fr gI wI g w∧e 2=.int .i64 (x2)∧e 5=p1∧PT g.m w (x0:LoomLoomMill) p1∧e 11=p7∧OB 2011 g w 49 (y4:LoomOrder) p7∧e 13=i7∧OB 2013 g w 66 (((mget x4 x1).getD (⟨0,0,0⟩:LoomRun)):LoomRun) i7∧e 40=.bool (x6)) (fun Q' hQ=>?_) (fun vE aG hR=>?_)
    ·replace h := hx
     clear hx
     refine Za (EL_p (fPtr i7 1) (Zc at_66_1 rfl (OB.ptr b46)) rfl ?_)
     refine Ze .plain rfl (D_loadF (g:=v8) part_LoomRun_1.1 Tryz.isAgg3 Tryz.sizeOf3 rfl b46 fun bG iE=>?_)
     obtain rfl:=Zj.1 iE
     refine Zn (.int .i64 (x2)) rfl rfl ?_
     refine EL_in (.bool (((((mget x4 x1).getD (⟨0,0,0⟩:LoomRun))).Loom != x2))) rfl rfl rfl rfl ?_
     refine Zn (.bool (((((mget x4 x1).getD (⟨0,0,0⟩:LoomRun))).Loom != x2))) rfl rfl ?_
     rcases Zt h with ⟨i6,h⟩ | ⟨i6,h⟩
     ·refine EL_s rfl rfl i6 rfl rfl ?_
      iterate 3 refine EL_s rfl rfl i6 rfl rfl ?_
      refine EL_p (.bool true) (Zl (b:=((((mget x4 x1).getD (⟨0,0,0⟩:LoomRun))).Loom != x2)) rfl (pick_t i6 rfl)) rfl ?_
      refine Zb ?_
      obtain rfl:=sinj h
      exact hQ _ _ ⟨v8,hfr,rfl,rfl,q1,rfl,b8,rfl,b46,rfl⟩
     ·refine EL_y (fPtr i7 2) (Zc at_66_2 rfl (OB.ptr b46)) rfl rfl i6 rfl ?_
      refine Ze (.yes2 rfl rfl i6) rfl (D_loadF (g:=v8) part_LoomRun_2.1 Tryz.isAgg3 Tryz.sizeOf3 rfl b46 fun cG lE=>?_)
      obtain rfl:=Zj.1 lE
      refine EL_y (.int .i64 (max64 (y4).Early x3)) (Zk rfl) rfl rfl i6 rfl ?_
      refine EL_y (.bool ((decide ((((mget x4 x1).getD (⟨0,0,0⟩:LoomRun))).From < (max64 (y4).Early x3))))) (P_int rfl rfl rfl) rfl rfl i6 rfl ?_
      refine EL_p (.bool ((decide ((((mget x4 x1).getD (⟨0,0,0⟩:LoomRun))).From < (max64 (y4).Early x3))))) (Zl (b:=((((mget x4 x1).getD (⟨0,0,0⟩:LoomRun))).Loom != x2)) rfl (pick_f i6 rfl)) rfl ?_
      refine Zb ?_
      obtain rfl:=sinj h
      exact hQ _ _ ⟨v8,hfr,rfl,rfl,q1,rfl,b8,rfl,b46,rfl⟩
    ·clear hx
     obtain ⟨mE,hfr,mC,qC,rC,nB,oB,tB,vB,x8⟩:=hR
     rcases Zt h with ⟨k9,h⟩ | ⟨k9,h⟩
     ·refine E_cond_true (Eq.trans (show ev _ _ = .bool (x6) from x8) (congrArg Value.bool k9)) ?_
      refine Zf (Za (Zg (.int .i64 (1048576)) rfl rfl ?_))
      refine Zb (Zd (E_ret (thn_r ?_)))
      refine thn_r ?_
      obtain rfl:=sinj h
      exact end1 rfl rfl (show _=.int .i64 (1048576) from rfl) ⟨_,hfr,rfl⟩
     ·refine E_cond_false (Eq.trans (show ev _ _ = .bool (x6) from x8) (congrArg Value.bool k9)) ?_
      exact Zu (Zd (lD () _ _ ⟨mE,hfr,mC,qC,rC,nB,oB,tB,vB⟩ h))
   ·rintro _ xE eG ⟨iD, hfr, uC, vC, aD, yB, zB, cC, a9⟩ h
    refine Za (EL_p (fPtr i7 2) (Zc at_66_2 cC (OB.ptr a9)) rfl ?_)
    refine Ze .plain rfl (D_loadF (g:=iD) part_LoomRun_2.1 Tryz.isAgg3 Tryz.sizeOf3 rfl a9 fun gG oE=>?_)
    obtain rfl:=Zj.1 oE
    refine Zg (.int .i64 ((((mget x4 x1).getD (⟨0,0,0⟩:LoomRun))).From)) rfl rfl ?_
    exact Zb (Zd (iB ((((mget x4 x1).getD (⟨0,0,0⟩:LoomRun))).From) _ _ ⟨iD,hfr,uC,vC,aD,yB,zB,rfl⟩ h))
  ·refine E_cf d9 rfl ?_
   exact Zu (Zd (iB ((max64 (y4).Early x3)) _ _ ⟨v8,hfr,rfl,rfl,q1,rfl,b8,rfl⟩ h))
 ·rintro o0 yE hG ⟨jD, hfr, u9, y9, l8, y6, l5, m7⟩ h
  refine Zq h (fun (s:Unit) e w=>∃ (g:Gh) ,Fr gI wI g w∧e 12=.int .i64 (o0)) (fun X198 aB bD h=>?_) ?_
  ·obtain ⟨x5, hx, h⟩ := bsome h
   refine E_join (fun e w=>∃ (g:Gh) ,Fr gI wI g w∧e 12=.int .i64 (o0)∧e 60=.bool (x5)) (fun Q' hQ=>?_) (fun rE zE hR=>?_)
   ·replace h := hx
    clear hx
    refine L_loadO (x:=.tmp 43) part_LoomOrder_0.1 Tryz.isAgg3 Tryz.sizeOf3 l5 fun cF nD z9=>?_
    obtain rfl:=Zj.1 nD
    have l9:=Zm (part_LoomLoomMill_0).1 l8
    have oD:=Zm (part_LoomMill_0).1 l9
    refine Zs (x:=.tmp 46) Tryz.isAgg28 Tryz.sizeOf28 oD fun m8 n9 bA=>?_
    obtain ⟨t5,n8,h⟩:=bsome h
    have sD:=PT_idx n9 n8
    refine Zs (x:=.tmp 49) Tryz.isAgg3 Tryz.sizeOf3 sD fun dF tD iA=>?_
    obtain rfl:=Zj.1 tD
    rcases Zt h with ⟨u3,h⟩ | ⟨u3,h⟩
    ·refine E_drawL (g := jD) (n := 18) [] [0, 1, 2, 3, 4, 5, 6, 7, 8, 9, 10, 11, 12, 13, 14, 15, 16, 17] rfl mixed (by kernel_rfl) trivial ?_
     refine L_p (fPtr p7 0) rfl rfl (Zc at_49_0 y6 (OB.ptr l5)) ?_
     refine L_ld (c:=.int .i64 ((y4).Width)) rfl rfl .plain (fun _ _ h=>⟨h.ch,fun b hb _=>h.below.block b hb⟩) z9 rfl ?_
     refine L_p (fPtr p1 0) rfl rfl (Zc at_134_0 y9 (PT.ptr l8)) ?_
     refine L_p (fPtr (fPtr p1 0) 0) rfl rfl (Zc at_30_0 rfl (PT.ptr l9)) ?_
     refine L_ld (c:=m8) rfl rfl .plain (fun _ _ h=>h.ch) bA rfl ?_
     refine L_p (.int .i64 (x2)) rfl rfl (Zk u9) ?_
     refine L_p (ePtr m8 x2 1) rfl rfl (Zh (α:=Int) Tryz.underlying28 Tryz.sizeOf3 rfl n9 rfl n8) ?_
     refine L_ld (c:=.int .i64 (t5)) rfl rfl .plain (fun _ _ h=>h.ch) iA rfl ?_
     refine L_p (.bool ((decide ((y4).Width > t5)))) rfl rfl (P_int rfl rfl rfl) ?_
     refine L_p (.bool ((decide ((y4).Width > t5)))) rfl rfl (Zk rfl) ?_
     iterate 7 refine L_s rfl rfl rfl u3 rfl ?_
     refine L_p (.bool true) rfl rfl (Zl (b:=(decide ((y4).Width > t5))) rfl (pick_t u3 rfl)) ?_
     refine L_nl fun uD eF hs=>?_
     have hfr:=hfr.ext hs
     clear hs
     refine Zb ?_
     obtain rfl:=sinj h
     exact hQ _ _ ⟨uD,hfr,m7,rfl⟩
    ·refine L_loadO (x := .tmp 54) part_LoomOrder_2.1 Tryz.isAgg3 Tryz.sizeOf3 l5 fun rF vD cD => ?_
     obtain rfl:=Zj.1 vD
     refine L_loadO (x:=.tmp 57) part_LoomOrder_4.1 Tryz.isAgg3 Tryz.sizeOf3 l5 fun sF xD eD=>?_
     obtain rfl:=Zj.1 xD
     refine E_drawL (g:=jD) (n:=18) [] [0,1,2,3,4,5,6,7,8,9,10,11,12,13,14,15,16,17] rfl mixed (by kernel_rfl) trivial ?_
     refine L_p (fPtr p7 0) rfl rfl (Zc at_49_0 y6 (OB.ptr l5)) ?_
     refine L_ld (c:=.int .i64 ((y4).Width)) rfl rfl .plain (fun _ _ h=>⟨h.ch,fun b hb _=>h.below.block b hb⟩) z9 rfl ?_
     refine L_p (fPtr p1 0) rfl rfl (Zc at_134_0 y9 (PT.ptr l8)) ?_
     refine L_p (fPtr (fPtr p1 0) 0) rfl rfl (Zc at_30_0 rfl (PT.ptr l9)) ?_
     refine L_ld (c:=m8) rfl rfl .plain (fun _ _ h=>h.ch) bA rfl ?_
     refine L_p (.int .i64 (x2)) rfl rfl (Zk u9) ?_
     refine L_p (ePtr m8 x2 1) rfl rfl (Zh (α:=Int) Tryz.underlying28 Tryz.sizeOf3 rfl n9 rfl n8) ?_
     refine L_ld (c:=.int .i64 (t5)) rfl rfl .plain (fun _ _ h=>h.ch) iA rfl ?_
     refine L_p (.bool ((decide ((y4).Width > t5)))) rfl rfl (P_int rfl rfl rfl) ?_
     refine L_p (.bool ((decide ((y4).Width > t5)))) rfl rfl (Zk rfl) ?_
     refine L_y (.int .i64 (o0)) rfl rfl rfl rfl u3 (Zk m7) ?_
     refine L_y (fPtr p7 2) rfl rfl rfl rfl u3 (Zc at_49_2 y6 (OB.ptr l5)) ?_
     refine L_ld (c:=.int .i64 ((y4).Woven)) rfl rfl (.yes2 rfl rfl u3) (fun _ _ h=>⟨h.ch,fun b hb _=>h.below.block b hb⟩) cD rfl ?_
     refine L_y (.int .i64 ((w64 (o0 + (y4).Woven)))) rfl rfl rfl rfl u3 (P_int rfl rfl rfl) ?_
     refine L_y (fPtr p7 4) rfl rfl rfl rfl u3 (Zc at_49_4 y6 (OB.ptr l5)) ?_
     refine L_ld (c:=.int .i64 ((y4).Late)) rfl rfl (.yes2 rfl rfl u3) (fun _ _ h=>⟨h.ch,fun b hb _=>h.below.block b hb⟩) eD rfl ?_
     refine L_y (.bool ((decide ((w64 (o0 + (y4).Woven)) > (y4).Late)))) rfl rfl rfl rfl u3 (P_int rfl rfl rfl) ?_
     refine L_p (.bool ((decide ((w64 (o0 + (y4).Woven)) > (y4).Late)))) rfl rfl (Zl (b:=(decide ((y4).Width > t5))) rfl (pick_f u3 rfl)) ?_
     refine L_nl fun yD tF hs=>?_
     have hfr:=hfr.ext hs
     clear hs
     refine Zb ?_
     obtain rfl:=sinj h
     exact hQ _ _ ⟨yD,hfr,m7,rfl⟩
   ·clear hx
    obtain ⟨zD,hfr,rA,k8⟩:=hR
    rcases Zt h with ⟨r8,h⟩ | ⟨r8,h⟩
    ·refine E_cond_true (Eq.trans (show ev _ _ = .bool (x5) from k8) (congrArg Value.bool r8)) ?_
     refine Zf (Za (Zg (.int .i64 (1048576)) rfl rfl ?_))
     refine Zb (Zd (E_ret (thn_r ?_)))
     obtain rfl:=sinj h
     exact end1 rfl rfl (show _=.int .i64 (1048576) from rfl) ⟨_,hfr,rfl⟩
    ·refine E_cond_false (Eq.trans (show ev _ _ = .bool (x5) from k8) (congrArg Value.bool r8)) ?_
     exact Zu (Zd (bD () _ _ ⟨zD,hfr,rA⟩ h))
  ·rintro _ uE uF ⟨vF, hfr, yA⟩ h
   refine Zf (Za (Zo yA rfl ?_))
   refine Zg (.int .i64 (o0)) rfl rfl ?_
   refine Zb (Zd (E_ret ?_))
   obtain rfl:=sinj h
   exact end1 rfl rfl (show _=.int .i64 (o0) from rfl) ⟨_,hfr,rfl⟩
def f164 (x0:Int) (x1:Int):Option (Bool):=
 Option.bind (α:=Bool) (
  (f110 x0).bind fun y8=>
  bif y8 then
   (f110 x1).bind fun y11=>
   bif (!y11) then
    some (true)
   else
    some ((decide (x0 < x1)))
  else
   some ((decide (x0 < x1)))
  ) fun l5=>
 some (l5)
theorem en164:Enters Tryz.prog 164:=enters_of Tryz.func164 (by kernel_rfl) rfl
theorem wk164 {gI:Gh} {wI:World} {x0:Int} {x1:Int}  {r:Bool} (h:f164 x0 x1=some r):Fn Tryz.prog 164 #[.int .i64 (x0),.int .i64 (x1)] gI wI (fun _ _ v=>v=.bool (r)):=by
 unfold f164 at h
 refine fn_of_E Tryz.func164 rfl (Nat.le_of_ble_eq_true rfl) fun g0 hm hfr=>?_
 show E _ 17 none _ _ _ _ _
 refine Zf (Za (Zg (.bool false) rfl rfl ?_))
 refine Zb (Zd ?_)
 obtain ⟨l5,hx,h⟩:=bsome h
 refine E_join (fun e w=>∃ (g:Gh) ,Fr gI wI g w∧e 4=.bool (l5)) (fun Q' hQ=>?_) (fun y6 m7 hR=>?_)
 ·replace h := hx
  clear hx
  refine Za (Zn (.int .i64 (x0)) rfl rfl ?_)
  obtain ⟨y8,x6,h⟩:=bsome h
  refine Ze .plain rfl (Zp (g:=g0) (vs:=[.int .i64 (x0)]) en110 (.cons rfl .nil) (wk110  x6) fun g7 w7_ v7 hs hr=>?_)
  have hfr:=hfr.ext hs
  subst hr
  refine Zn (.bool (y8)) rfl rfl ?_
  rcases Zt h with ⟨u3,h⟩ | ⟨u3,h⟩
  ·refine EL_y (.int .i64 (x1)) (Zk rfl) rfl rfl u3 rfl ?_
   obtain ⟨y11,i6,h⟩:=bsome h
   refine Ze (.yes2 rfl rfl u3) rfl (Zp (g:=g7) (vs:=[.int .i64 (x1)]) en110 (.cons rfl .nil) (wk110  i6) fun x5 i7 g8 hs hr=>?_)
   have hfr:=hfr.ext hs
   subst hr
   refine EL_y (.bool (!y11)) (P_not rfl) rfl rfl u3 rfl ?_
   refine EL_p (.bool (!y11)) (Zl (b:=y8) rfl (pick_t u3 rfl)) rfl ?_
   refine Zn (.bool (!y11)) rfl rfl ?_
   rcases Zt h with ⟨o0,h⟩ | ⟨o0,h⟩
   ·refine EL_s rfl rfl o0 rfl rfl ?_
    refine EL_s rfl rfl o0 rfl rfl ?_
    refine EL_s rfl rfl o0 rfl rfl ?_
    refine EL_p (.bool true) (Zl (b:=(!y11)) rfl (pick_t o0 rfl)) rfl ?_
    refine Zg (.bool true) rfl rfl ?_
    refine Zb ?_
    obtain rfl:=sinj h
    exact hQ _ _ ⟨x5,hfr,rfl⟩
   ·refine EL_y (.int .i64 (x0)) (Zk rfl) rfl rfl o0 rfl ?_
    refine EL_y (.int .i64 (x1)) (Zk rfl) rfl rfl o0 rfl ?_
    refine EL_y (.bool ((decide (x0 < x1)))) (P_int rfl rfl rfl) rfl rfl o0 rfl ?_
    refine EL_p (.bool ((decide (x0 < x1)))) (Zl (b:=(!y11)) rfl (pick_f o0 rfl)) rfl ?_
    refine Zg (.bool ((decide (x0 < x1)))) rfl rfl ?_
    refine Zb ?_
    obtain rfl:=sinj h
    exact hQ _ _ ⟨x5,hfr,rfl⟩
  ·refine EL_s rfl rfl u3 rfl rfl ?_
   refine EL_s rfl rfl u3 rfl rfl ?_
   refine EL_s rfl rfl u3 rfl rfl ?_
   refine EL_p (.bool false) (Zl (b:=y8) rfl (pick_f u3 rfl)) rfl ?_
   refine Zn (.bool false) rfl rfl ?_
   refine EL_y (.int .i64 (x0)) (Zk rfl) rfl rfl rfl rfl ?_
   refine EL_y (.int .i64 (x1)) (Zk rfl) rfl rfl rfl rfl ?_
   refine EL_y (.bool ((decide (x0 < x1)))) (P_int rfl rfl rfl) rfl rfl rfl rfl ?_
   refine EL_p (.bool ((decide (x0 < x1)))) (Zl (b:=false) rfl (pick_f rfl rfl)) rfl ?_
   refine Zg (.bool ((decide (x0 < x1)))) rfl rfl ?_
   refine Zb ?_
   obtain rfl:=sinj h
   exact hQ _ _ ⟨g7,hfr,rfl⟩
 ·clear hx
  obtain ⟨k8,hfr,t5⟩:=hR
  refine E_ret ?_
  obtain rfl:=sinj h
  exact end1 rfl rfl (show _=.bool (l5) from t5) ⟨_,hfr,rfl⟩
def f177 (x0:List Int) (x1:Int) (x2:Int) (x3:Int) (x4:Int→Int→Option Int):Option ((List Int)):=
 lp (σ:=(List Int) × Int) (fun k1 (u3,o0)=>
  jn (σ:=Unit) (fun _=>
   Option.bind (α:=(List Int)) (
    (idx u3 (w64 (x2 + o0))).bind fun x6=>
    (idx u3 (w64 (x1 + o0))).bind fun y44=>
    (idx u3 (w64 (x1 + o0))).bind fun aB=>
    (idx ((List.set u3 (Int.toNat (w64 (x1 + o0))) x6)) (w64 (x2 + o0))).bind fun dB=>
    some ((List.set ((List.set u3 (Int.toNat (w64 (x1 + o0))) x6)) (Int.toNat (w64 (x2 + o0))) y44))
    ) fun x5=>
   k1 (x5,(w64 (o0 + (1:Int))))
   ) fun k4=>
  bif (decide (o0 < x3)) then
   k4 ()
  else
   some (u3)
  ) big (x0,(0:Int))
theorem en177:Enters Tryz.prog 177:=enters_of Tryz.func177 (by kernel_rfl) rfl
theorem wk177 {iI:Nat} {gI:Gh} {wI:World} {x0:List Int} {x1:Int} {x2:Int} {x3:Int} {x4:Int→Int→Option Int} {up0:Value} (mp0:OM iI gI wI 3 x0 up0) {up4:Value} (rp4:FnV2 Tryz.prog x4 up4 gI wI) {r:(List Int)} (h:f177 x0 x1 x2 x3 x4=some r):FnM Tryz.prog 177 #[up0,.int .i64 (x1),.int .i64 (x2),.int .i64 (x3),up4] iI gI wI (fun g w v=>v=.tuple #[]∧OM iI g w 3 r up0):=by
 unfold f177 at h
 refine fnM_of_E Tryz.func177 rfl (Nat.le_of_ble_eq_true rfl) fun g0 hm hfr=>?_
 have x8:=mp0
 replace mp0:=mp0.enter
 rw [← hm] at mp0
 replace hm:g0.m=gI.m:=by rw [hm]
 obtain ⟨ff4,fa4,fc4,rfl,fen4,fcl4⟩:=rp4
 show E _ 38 none _ _ _ _ _
 refine Zf (Za (Zg (.int .i64 (0)) rfl rfl ?_))
 refine Zb (Zd (Zr ?_))
 refine E_lp h (fun (s:(List Int) × Int) e w=>∃ (g:Gh) ,FrM iI gI wI g w∧e 0=up0∧OM 1 g w 3 (s.1:List Int) up0∧e 1=.int .i64 (x1)∧e 2=.int .i64 (x2)∧e 3=.int .i64 (x3)∧e 10=.int .i64 (s.2)) ⟨g0,hfr,rfl,mp0,rfl,rfl,rfl,rfl⟩ (fun X1 k1 hk1=>?_)
 rintro ⟨u3,o0⟩ yB w2 ⟨g2,hfr,y9,g8,z9,bA,k8,m7⟩ h
 refine Zq h (fun (s:Unit) e w=>∃ (g:Gh) ,FrM iI gI wI g w∧e 0=up0∧OM 1 g w 3 (u3:List Int) up0∧e 1=.int .i64 (x1)∧e 2=.int .i64 (x2)∧e 3=.int .i64 (x3)∧e 10=.int .i64 (o0)) (fun X4 k4 hk4 h=>?_) ?_
 ·refine Zf (Za (Zo m7 rfl ?_))
  refine Zo k8 rfl ?_
  refine EL_in (.bool ((decide (o0 < x3)))) rfl rfl rfl rfl ?_
  refine Zb (Zd ?_)
  rcases Zt h with ⟨hc5,h⟩ | ⟨hc5,h⟩
  ·refine E_ct hc5 rfl ?_
   exact Zu (Zd (hk4 () _ _ ⟨g2,hfr,y9,g8,z9,bA,k8,m7⟩ h))
  ·refine E_cf hc5 rfl ?_
   refine E_exit ?_
   refine thn_e ?_
   refine thn_e ?_
   refine blk_hit ?_
   obtain rfl:=sinj h
   exact end0n rfl rfl ⟨_,hfr,rfl,x8.back g8⟩
 ·rintro _ zB w6 ⟨g6, hfr, i6, l5, y6, i7, iA, t5⟩ h
  obtain ⟨x5,hx,h⟩:=bsome h
  refine E_join (fun e w=>∃ (g:Gh) ,FrM iI gI wI g w∧e 0=up0∧OM 1 g w 3 (x5:List Int) up0∧e 1=.int .i64 (x1)∧e 2=.int .i64 (x2)∧e 3=.int .i64 (x3)∧e 10=.int .i64 (o0)) (fun Q' hQ=>?_) (fun vB cC hR=>?_)
  ·replace h := hx
   clear hx
   refine Zr ?_
   obtain ⟨x6,l8,h⟩:=bsome h
   refine L_loadM (x:=.tmp 28) Tryz.isAgg3 Tryz.sizeOf3 l5 l8 fun mC iB rA=>?_
   obtain rfl:=Zj.1 iB
   obtain ⟨y44,m8,h⟩:=bsome h
   refine L_loadM (x:=.tmp 34) Tryz.isAgg3 Tryz.sizeOf3 l5 m8 fun qC lB yA=>?_
   obtain rfl:=Zj.1 lB
   obtain ⟨aB,n8,h⟩:=bsome h
   refine E_drawTL (g:=g6) (n:=21) [4,5,6,7] [] [0,1,2,3,4,5,6,7,8,9,10,11,12,13,14,15,16,17,18,19,20] rfl mixed (by kernel_rfl) trivial rfl ?_
   refine L_p up0 rfl rfl (Zk i6) ?_
   refine L_p (.int .i64 (x1)) rfl rfl (Zk y6) ?_
   refine L_p (.int .i64 (o0)) rfl rfl (Zk t5) ?_
   refine L_p (.int .i64 ((w64 (x1 + o0)))) rfl rfl (P_int rfl rfl rfl) ?_
   refine L_purL (c:=up0) rfl rfl .plain (Zk i6) ?_
   refine L_purL (c:=.int .i64 (x2)) rfl rfl .plain (Zk i7) ?_
   refine L_purL (c:=.int .i64 (o0)) rfl rfl .plain (Zk t5) ?_
   refine L_purL (c:=.int .i64 ((w64 (x2 + o0)))) rfl rfl .plain (P_int rfl rfl rfl) ?_
   refine L_p up0 rfl rfl (Zk i6) ?_
   refine L_p (.int .i64 (x2)) rfl rfl (Zk i7) ?_
   refine L_p (.int .i64 (o0)) rfl rfl (Zk t5) ?_
   refine L_p (.int .i64 ((w64 (x2 + o0)))) rfl rfl (P_int rfl rfl rfl) ?_
   refine L_p (ePtr up0 (w64 (x2 + o0)) 1) rfl rfl (P_indexAddrM (α:=Int) Tryz.underlying28 Tryz.sizeOf3 rfl l5 rfl l8) ?_
   refine L_ld (c:=.int .i64 (x6)) rfl rfl .plain (fun _ _ h=>⟨h.ch,fun b hb _=>h.below.block b hb⟩) rA rfl ?_
   refine L_p up0 rfl rfl (Zk i6) ?_
   refine L_p (.int .i64 (x1)) rfl rfl (Zk y6) ?_
   refine L_p (.int .i64 (o0)) rfl rfl (Zk t5) ?_
   refine L_p (.int .i64 ((w64 (x1 + o0)))) rfl rfl (P_int rfl rfl rfl) ?_
   refine L_p (ePtr up0 (w64 (x1 + o0)) 1) rfl rfl (P_indexAddrM (α:=Int) Tryz.underlying28 Tryz.sizeOf3 rfl l5 rfl m8) ?_
   refine L_ld (c:=.int .i64 (y44)) rfl rfl .plain (fun _ _ h=>⟨h.ch,fun b hb _=>h.below.block b hb⟩) yA rfl ?_
   refine L_p (ePtr up0 (w64 (x1 + o0)) 1) rfl rfl (P_indexAddrM (α:=Int) Tryz.underlying28 Tryz.sizeOf3 rfl l5 rfl n8) ?_
   refine L_nl fun u9 mB hs=>?_
   have hlt:Lt g6.m w6 u9 mB:=hs.ch
   have hfr:=hfr.ext hs
   have l5:=l5.ext hs
   clear hs
   refine TL_do hlt.w .plain rfl (D_storeM (g:=u9) (α:=Int) (a':=x6) Tryz.sizeOf3 rfl l5 n8 rfl (Zj.2 rfl) fun nB rC hs b75=>?_)
   have hfr:=hfr.stp hs
   have hlt:=hlt.stp hs
   obtain ⟨dB,r8,h⟩:=bsome h
   refine TL_pur hlt.w (v:=ePtr up0 (w64 (x2 + o0)) 1) (P_indexAddrM (α:=Int) Tryz.underlying28 Tryz.sizeOf3 rfl b75 rfl r8) .plain rfl ?_
   refine TL_do hlt.w .plain rfl (D_storeM (g:=nB) (α:=Int) (a':=y44) Tryz.sizeOf3 rfl b75 r8 rfl (Zj.2 rfl) fun oB uC hs b77=>?_)
   have hfr:=hfr.stp hs
   have hlt:=hlt.stp hs
   refine TL_nil hlt.w ?_
   clear hlt
   refine blk_n ?_
   obtain rfl:=sinj h
   exact hQ _ _ ⟨oB,hfr,i6,b77,y6,i7,iA,t5⟩
  ·clear hx
   obtain ⟨tB,hfr,a9,d9,k9,l9,n9,v8⟩:=hR
   refine Za (Zo v8 rfl ?_)
   refine EL_in (.int .i64 ((w64 (o0 + (1:Int))))) rfl rfl rfl rfl ?_
   refine Zg (.int .i64 ((w64 (o0 + (1:Int))))) rfl rfl ?_
   exact Zb (Zd (hk1 (x5,(w64 (o0 + (1:Int)))) _ _ ⟨tB,hfr,a9,d9,k9,l9,n9,rfl⟩ h))
theorem v7_0 {iO:Nat} {gI:Gh} {wI:World} {x0:List LoomOrder} {up0:Value} (rp0:RV gI.m wI x0 up0) {r:(List LoomOrder)} (h:f7 x0=some r):FnG Tryz.prog 7 #[up0] gI wI (fun g w v=>OM iO g w 49 (r) v):=by
 unfold f7 at h
 refine fnG_of_E Tryz.func7 rfl (Nat.le_of_ble_eq_true rfl) fun g0 hm hfr=>?_
 have rp0:RV g0.m wI x0 up0:=hm ▸ rp0
 show E _ 6 none _ _ _ _ _
 refine Zf (Za (Zg (.slice none 0 0) rfl rfl ?_))
 refine Zb (Zd (Zf (Za (Ze .plain rfl (D_buildSlice (g:=g0) 3003 (xs:=([]:List LoomOrder)) (vs:=[]) Tryz.underlying31 Tryz.sizeOf49 Tryz.zeroValue49 rfl rfl .nil RVs.nil rfl rfl fun g1 w1 v1 hs o1 r1 hxt hfl=>?_)))))
 have hfr:=hfr.stp hs
 have rp0:=rp0.stp hs
 refine Zn up0 rfl rfl ?_
 obtain ⟨y3,hy3,h⟩:=bsome h
 refine Ze .plain rfl (D_append (g:=g1) (i:=3003) Tryz.underlying31 info_49 rfl rfl o1 r1 rfl rp0 hy3 fun g2 w2 v2 hs o2 r2 _=>?_)
 have hfr:=hfr.stp hs
 refine Zg v2 rfl rfl ?_
 refine Zb (Zd (E_ret ?_))
 obtain rfl:=sinj h
 obtain ⟨gh,hxh,homh⟩:=OM.hand (i:=iO) plain_LoomOrder hfr o2 r2
 exact end1 rfl rfl (show _=v2 from rfl) ⟨gh,hxh,homh⟩
def f42 (x0:List (List Int)) (x1:(List Int)→Option Bool):Option (Bool):=
 (f86 x0 x1).bind fun y2=>
 some ((decide (y2 ≥ (0:Int))))
theorem en42:Enters Tryz.prog 42:=enters_of Tryz.func42 (by kernel_rfl) rfl
theorem wk42 {gI:Gh} {wI:World} {x0:List (List Int)} {x1:(List Int)→Option Bool} {up0:Value} (rp0:RV gI.m wI x0 up0) {up1:Value} (rp1:FnV1 Tryz.prog x1 up1 gI wI) {r:Bool} (h:f42 x0 x1=some r):Fn Tryz.prog 42 #[up0,up1] gI wI (fun _ _ v=>v=.bool (r)):=by
 unfold f42 at h
 refine fn_of_E Tryz.func42 rfl (Nat.le_of_ble_eq_true rfl) fun g0 hm hfr=>?_
 have rp0:RV g0.m wI x0 up0:=hm ▸ rp0
 obtain ⟨ff1,fa1,fc1,rfl,fen1,fcl1⟩:=rp1
 show E _ 9 none _ _ _ _ _
 refine Zf (Za (Zg (.bool false) rfl rfl ?_))
 refine Zb (Zd (Zf (Za (Zn up0 rfl rfl ?_))))
 refine Zn ((.func (.func ff1) fa1 fc1)) rfl rfl ?_
 obtain ⟨y2,hy2,h⟩:=bsome h
 refine Ze .plain rfl (Zp (g:=g0) (vs:=[up0,(.func (.func ff1) fa1 fc1)]) en86 (.cons rfl (.cons rfl .nil)) (wk86 rp0 (FnV1.ch ⟨_,_,_,rfl,fen1,fcl1⟩ hfr.ch) hy2) fun g1 w1_ v1 hs hr=>?_)
 have hfr:=hfr.ext hs
 subst hr
 refine EL_in (.bool ((decide (y2 ≥ (0:Int))))) rfl rfl rfl rfl ?_
 refine Zg (.bool ((decide (y2 ≥ (0:Int))))) rfl rfl ?_
 refine Zb (Zd (E_ret ?_))
 obtain rfl:=sinj h
 exact end1 rfl rfl (show _=.bool ((decide (y2 ≥ (0:Int)))) from rfl) ⟨_,hfr,rfl⟩
def f44 (x0:List (List Int)):Option ((List Int)):=
 Option.bind (α:=Int) (
  lp (σ:=Int × Int) (fun gD (l5,o0)=>
   bif (decide (o0 < ((x0).length : Int))) then
    Option.bind (α:=Int) (
     (idx x0 o0).bind fun i6=>
     bif (decide ((w64 (l5 + ((i6).length : Int))) < (0 : Int))) then
      none
     else
      some ((w64 (l5 + ((i6).length:Int))))
     ) fun x6=>
    gD (x6,(w64 (o0 + (1:Int))))
   else
    some (l5)
   ) big ((0:Int),(0:Int))
  ) fun y6=>
 (f87 y6).bind fun iD=>
 Option.bind (α:=(List Int)) (
  lp (σ:=(List Int) × Int) (fun jD (l8,u3)=>
   bif (decide (u3 < ((x0).length : Int))) then
    Option.bind (α:=(List Int)) (
     (idx x0 u3).bind fun lD=>
     (apnd 8 l8 lD).bind fun nD=>
     some (nD)
     ) fun x5=>
    jD (x5,(w64 (u3 + (1:Int))))
   else
    some (l8)
   ) big (iD,(0:Int))
  ) fun i7=>
 some (i7)
theorem en44:Enters Tryz.prog 44:=enters_of Tryz.func44 (by kernel_rfl) rfl
theorem wk44 {gI:Gh} {wI:World} {x0:List (List Int)} {up0:Value} (rp0:RV gI.m wI x0 up0) {r:(List Int)} (h:f44 x0=some r):Fn Tryz.prog 44 #[up0] gI wI (fun m w v=>RV m w (r) v):=by
 unfold f44 at h
 refine fn_of_E Tryz.func44 rfl (Nat.le_of_ble_eq_true rfl) fun g0 hm hfr=>?_
 have rp0:RV g0.m wI x0 up0:=hm ▸ rp0
 show E _ 36 none _ _ _ _ _
 refine Zf (Za (Zg (.slice none 0 0) rfl rfl ?_))
 refine Zb (Zd (Zf (Za (Zg (.int .i64 (0)) rfl rfl ?_))))
 refine Zb (Zd ?_)
 obtain ⟨y6,hx,h⟩:=bsome h
 refine E_join (fun e w=>∃ (g:Gh) ,Fr gI wI g w∧e 0=up0∧RV g.m w (x0:List (List Int)) up0∧e 3=.int .i64 (y6)) (fun Q' hQ=>?_) (fun cF uF hR=>?_)
 ·replace h := hx
  clear hx
  refine Zf (Za (Zn up0 rfl rfl ?_))
  refine EL_p (.int .i64 ((x0).length:Int)) (P_len Tryz.underlying35 rfl rp0) rfl ?_
  refine Zn (.int .i64 (0)) rfl rfl ?_
  refine Zb (Zd (Zr ?_))
  refine E_lp h (fun (s:Int × Int) e w=>∃ (g:Gh) ,Fr gI wI g w∧e 0=up0∧RV g.m w (x0:List (List Int)) up0∧e 3=.int .i64 (s.1)∧e 9=up0∧RV g.m w (x0:List (List Int)) up0∧e 10=.int .i64 (((x0).length:Int))∧e 11=.int .i64 (s.2)) ⟨g0,hfr,rfl,rp0,rfl,rfl,rp0,rfl,rfl⟩ (fun X13 gD vD=>?_)
  rintro ⟨l5,o0⟩ dF vF ⟨rA,hfr,k9,l9,n9,u9,m8,n8,g8⟩ h
  refine Zf (Za (EL_in (.bool ((decide (o0 < ((x0).length:Int))))) g8 n8 rfl rfl ?_))
  refine Zb (Zd (Zf ?_))
  rcases Zt h with ⟨x8,h⟩ | ⟨x8,h⟩
  ·refine E_ct x8 rfl ?_
   refine Zu (Zd ?_)
   obtain ⟨x6,hx,h⟩:=bsome h
   refine E_join (fun e w=>∃ (g:Gh) ,Fr gI wI g w∧e 0=up0∧RV g.m w (x0:List (List Int)) up0∧e 3=.int .i64 (x6)∧e 9=up0∧RV g.m w (x0:List (List Int)) up0∧e 10=.int .i64 (((x0).length:Int))∧e 11=.int .i64 (o0)) (fun Q' hQ=>?_) (fun eF xF hR=>?_)
   ·replace h := hx
    clear hx
    refine Zr ?_
    refine Zf (Za ?_)
    obtain ⟨i6,hy20,h⟩:=bsome h
    refine EL_p (ePtr up0 o0 1) (Zh (α:=List Int) Tryz.underlying35 Tryz.sizeOf28 u9 m8 g8 hy20) rfl ?_
    have aE:=PT_idx m8 hy20
    refine Ze .plain rfl (D_load (g:=rA) Tryz.isAgg28 Tryz.sizeOf28 rfl aE fun oD bE=>?_)
    refine Zg oD rfl rfl ?_
    refine Zb (Zd (Zf (Za (Zo n9 rfl ?_))))
    refine Zn oD rfl rfl ?_
    refine EL_p (.int .i64 ((i6).length:Int)) (P_len Tryz.underlying28 rfl bE) rfl ?_
    refine EL_in (.int .i64 ((w64 (l5 + ((i6).length:Int))))) rfl rfl rfl rfl ?_
    refine Zg (.int .i64 ((w64 (l5 + ((i6).length:Int))))) rfl rfl ?_
    refine Zb (Zd (Zf (Za (Zn (.int .i64 ((w64 (l5 + ((i6).length:Int))))) rfl rfl ?_))))
    refine EL_p (.bool ((decide ((w64 (l5 + ((i6).length:Int))) < (0:Int))))) (P_int rfl rfl rfl) rfl ?_
    refine Zb (Zd ?_)
    rcases Zt h with ⟨a9,h⟩ | ⟨a9,h⟩
    ·refine E_ct a9 rfl ?_
     refine Za ?_
     cases h
    ·refine E_cf a9 rfl ?_
     refine Zu (blk_n ?_)
     obtain rfl:=sinj h
     exact hQ _ _ ⟨rA,hfr,k9,l9,rfl,u9,m8,n8,g8⟩
   ·clear hx
    obtain ⟨iE,hfr,tB,vB,yB,zB,cC,yA,aB⟩:=hR
    refine Za (EL_in (.int .i64 ((w64 (o0 + (1:Int))))) aB rfl rfl rfl ?_)
    refine Zn (.int .i64 ((w64 (o0 + (1:Int))))) rfl rfl ?_
    exact Zb (Zd (vD (x6,(w64 (o0 + (1:Int)))) _ _ ⟨iE,hfr,tB,vB,yB,zB,cC,yA,rfl⟩ h))
  ·refine E_cf x8 rfl ?_
   refine E_exit ?_
   refine thn_e ?_
   refine thn_e ?_
   refine blk_hit ?_
   obtain rfl:=sinj h
   exact hQ _ _ ⟨rA,hfr,k9,l9,n9⟩
 ·clear hx
  obtain ⟨lE,hfr,mC,m7,qC⟩:=hR
  refine Zf (Za (Zo qC rfl ?_))
  obtain ⟨iD,xD,h⟩:=bsome h
  refine Ze .plain rfl (D_callG (g:=lE) (vs:=[.slice none 0 0,.int .i64 (y6)]) en87 (.cons rfl (.cons rfl .nil)) (wk87 (iO:=4024) xD) fun mE yF sD hs m26=>?_)
  obtain ⟨o26,oE⟩:=m26
  have hfr:=hfr.ext hs
  have m7:=m7.ext hs
  refine Zg sD rfl rfl ?_
  refine Zb (Zd ?_)
  obtain ⟨i7,hx,h⟩:=bsome h
  refine E_join (fun e w=>∃ (g:Gh) (v6:Value),Fr gI wI g w∧e 6=v6∧RV g.m w (i7:List Int) v6∧OS 4024 g w 3 (i7:List Int) v6) (fun Q' hQ=>?_) (fun rF zF hR=>?_)
  ·replace h := hx
   clear hx
   refine Zf (Za (Zo mC rfl ?_))
   refine EL_p (.int .i64 ((x0).length:Int)) (P_len Tryz.underlying35 rfl m7) rfl ?_
   refine Zn (.int .i64 (0)) rfl rfl ?_
   refine Zb (Zd (Zr ?_))
   refine E_lp h (fun (s:(List Int) × Int) e w=>∃ (g:Gh) (v6:Value),Fr gI wI g w∧e 6=v6∧RV g.m w (s.1:List Int) v6∧OS 4024 g w 3 (s.1:List Int) v6∧e 25=up0∧RV g.m w (x0:List (List Int)) up0∧e 26=.int .i64 (((x0).length:Int))∧e 27=.int .i64 (s.2)) ⟨mE,(sD),hfr,rfl,oE,o26,rfl,m7,rfl,rfl⟩ (fun X42 jD yD=>?_)
   rintro ⟨l8,u3⟩ sF aG ⟨dB,rC,hfr,y9,z9,bA,r8,t5,v8,k8⟩ h
   refine Zf (Za (EL_in (.bool ((decide (u3 < ((x0).length:Int))))) k8 v8 rfl rfl ?_))
   refine Zb (Zd (Zf ?_))
   rcases Zt h with ⟨d9,h⟩ | ⟨d9,h⟩
   ·refine E_ct d9 rfl ?_
    refine Zu (Zd ?_)
    obtain ⟨x5,hx,h⟩:=bsome h
    refine E_join (fun e w=>∃ (g:Gh) (v6:Value),Fr gI wI g w∧e 6=v6∧RV g.m w (x5:List Int) v6∧OS 4024 g w 3 (x5:List Int) v6∧e 25=up0∧RV g.m w (x0:List (List Int)) up0∧e 26=.int .i64 (((x0).length:Int))∧e 27=.int .i64 (u3)) (fun Q' hQ=>?_) (fun tF bG hR=>?_)
    ·replace h := hx
     clear hx
     refine Zr ?_
     refine Zf (Za ?_)
     obtain ⟨lD,iB,h⟩:=bsome h
     refine EL_p (ePtr up0 u3 1) (Zh (α:=List Int) Tryz.underlying35 Tryz.sizeOf28 r8 t5 k8 iB) rfl ?_
     have rE:=PT_idx t5 iB
     refine Ze .plain rfl (D_load (g:=dB) Tryz.isAgg28 Tryz.sizeOf28 rfl rE fun tD uE=>?_)
     refine Zg tD rfl rfl ?_
     refine Zb (Zd (Za (Zo y9 rfl ?_)))
     refine Zn tD rfl rfl ?_
     obtain ⟨nD,zD,h⟩:=bsome h
     refine Ze .plain rfl (D_append (g:=dB) (i:=4024) Tryz.underlying28 info_3 rfl rfl bA z9 rfl uE zD fun vE cG uD hs o53 xE _=>?_)
     have hfr:=hfr.stp hs
     have t5:=t5.stp hs
     refine Zg uD rfl rfl ?_
     refine Zb (blk_n ?_)
     obtain rfl:=sinj h
     exact hQ _ _ ⟨vE,(uD),hfr,rfl,xE,o53,r8,t5,v8,k8⟩
    ·clear hx
     obtain ⟨yE,uC,hfr,vC,aD,bD,lB,mB,nB,oB⟩:=hR
     refine Za (EL_in (.int .i64 ((w64 (u3 + (1:Int))))) oB rfl rfl rfl ?_)
     refine Zn (.int .i64 ((w64 (u3 + (1:Int))))) rfl rfl ?_
     exact Zb (Zd (yD (x5,(w64 (u3 + (1:Int)))) _ _ ⟨yE,(uC),hfr,vC,aD,bD,lB,mB,nB,rfl⟩ h))
   ·refine E_cf d9 rfl ?_
    refine E_exit ?_
    refine thn_e ?_
    refine thn_e ?_
    refine blk_hit ?_
    obtain rfl:=sinj h
    exact hQ _ _ ⟨dB,(rC),hfr,y9,z9,bA⟩
  ·clear hx
   obtain ⟨eG,iA,hfr,cD,eD,zE⟩:=hR
   refine Zf (Za (Zo cD rfl ?_))
   refine Zg iA rfl rfl ?_
   refine Zb (Zd (E_ret ?_))
   obtain rfl:=sinj h
   exact end1 rfl rfl (show _=iA from rfl) ⟨_,hfr,eD⟩
def f48 (x0:LoomLoomMill):Option ((List Int)):=
 (shl64 (1:Int) ((((x0).LoomMill).Widths).length:Int)).bind fun y5=>
 (f94 ((w64 (y5 - (1:Int))))).bind fun y7=>
 some (y7)
theorem en48:Enters Tryz.prog 48:=enters_of Tryz.func48 (by kernel_rfl) rfl
theorem wk48 {gI:Gh} {wI:World} {x0:LoomLoomMill} {up0:Value} (rp0:RV gI.m wI x0 up0) {r:(List Int)} (h:f48 x0=some r):Fn Tryz.prog 48 #[up0] gI wI (fun m w v=>RV m w (r) v):=by
 unfold f48 at h
 refine fn_of_E Tryz.func48 rfl (Nat.le_of_ble_eq_true rfl) fun g0 hm hfr=>?_
 have rp0:RV g0.m wI x0 up0:=hm ▸ rp0
 show E _ 10 none _ _ _ _ _
 refine Zf (Za (Ze .plain rfl (D_box (g:=g0) rfl rp0 fun g1 w1 p1 hs q1=>?_)))
 have hfr:=hfr.ext hs
 refine Zg (.slice none 0 0) rfl rfl ?_
 refine Zb (Zd (Zf (Za (EL_p (fPtr p1 0) (Zc at_134_0 rfl (PT.ptr q1)) rfl ?_))))
 have q2:=Zm (part_LoomLoomMill_0).1 q1
 refine EL_p (fPtr (fPtr p1 0) 0) (Zc at_30_0 rfl (PT.ptr q2)) rfl ?_
 have q3:=Zm (part_LoomMill_0).1 q2
 refine Ze .plain rfl (D_load (g:=g1) Tryz.isAgg28 Tryz.sizeOf28 rfl q3 fun v4 r4=>?_)
 refine EL_p (.int .i64 ((((x0).LoomMill).Widths).length:Int)) (P_len Tryz.underlying28 rfl r4) rfl ?_
 obtain ⟨y5,hy5,h⟩:=bsome h
 refine EL_p (.int .i64 (y5)) (P_int rfl rfl (congrArg (Option.map (Value.int .i64)) hy5)) rfl ?_
 refine EL_in (.int .i64 ((w64 (y5 - (1:Int))))) rfl rfl rfl rfl ?_
 obtain ⟨y7,o0,h⟩:=bsome h
 refine Ze .plain rfl (Zp (g:=g1) (vs:=[.int .i64 ((w64 (y5 - (1:Int))))]) en94 (.cons rfl .nil) (wk94  o0) fun g6 w6_ v6 hs hr=>?_)
 have hfr:=hfr.ext hs
 have r6:=hr
 refine Zg v6 rfl rfl ?_
 refine Zb (Zd (E_ret ?_))
 obtain rfl:=sinj h
 exact end1 rfl rfl (show _=v6 from rfl) ⟨_,hfr,r6⟩
def f66 (x0:Int) (x1:Int):Option (Int):=
 (f110 x0).bind fun y2=>
 (f110 x1).bind fun y4=>
 jn (σ:=Unit) (fun _=>
  jn (σ:=Unit) (fun _=>
   jn (σ:=Unit) (fun _=>
    jn (σ:=Unit) (fun _=>
     some ((0:Int))
     ) fun l8=>
    bif (decide (x0 > x1)) then
     some ((1:Int))
    else
     l8 ()
    ) fun m8=>
   bif (decide (x0 < x1)) then
    some ((-1:Int))
   else
    m8 ()
   ) fun k18=>
  bif y4 then
   some ((1:Int))
  else
   k18 ()
  ) fun n8=>
 bif y2 then
  jn (σ:=Unit) (fun _=>
   some ((-1:Int))
   ) fun r8=>
  bif y4 then
   some ((0:Int))
  else
   r8 ()
 else
  n8 ()
theorem en66:Enters Tryz.prog 66:=enters_of Tryz.func66 (by kernel_rfl) rfl
theorem wk66 {gI:Gh} {wI:World} {x0:Int} {x1:Int}  {r:Int} (h:f66 x0 x1=some r):Fn Tryz.prog 66 #[.int .i64 (x0),.int .i64 (x1)] gI wI (fun _ _ v=>v=.int .i64 (r)):=by
 unfold f66 at h
 refine fn_of_E Tryz.func66 rfl (Nat.le_of_ble_eq_true rfl) fun g0 hm hfr=>?_
 show E _ 20 none _ _ _ _ _
 refine Zf (Za (Zg (.int .i64 (0)) rfl rfl ?_))
 refine Zb (Zd (Zf (Za (Zn (.int .i64 (x0)) rfl rfl ?_))))
 obtain ⟨y2,hy2,h⟩:=bsome h
 refine Ze .plain rfl (Zp (g:=g0) (vs:=[.int .i64 (x0)]) en110 (.cons rfl .nil) (wk110  hy2) fun g1 w1_ v1 hs hr=>?_)
 have hfr:=hfr.ext hs
 subst hr
 refine Zg (.bool (y2)) rfl rfl ?_
 refine Zb (Zd (Zf (Za (Zn (.int .i64 (x1)) rfl rfl ?_))))
 obtain ⟨y4,l9,h⟩:=bsome h
 refine Ze .plain rfl (Zp (g:=g1) (vs:=[.int .i64 (x1)]) en110 (.cons rfl .nil) (wk110  l9) fun g3 w3_ v3 hs hr=>?_)
 have hfr:=hfr.ext hs
 subst hr
 refine Zg (.bool (y4)) rfl rfl ?_
 refine Zb (Zd (Zq h (fun (s:Unit) e w=>∃ (g:Gh) ,Fr gI wI g w∧e 0=.int .i64 (x0)∧e 1=.int .i64 (x1)∧e 6=.bool (y4)) (fun X10 n8 v8 h=>?_) ?_))
 ·refine Zf (Za (Zn (.bool (y2)) rfl rfl ?_))
  refine Zb (Zd ?_)
  rcases Zt h with ⟨o0,h⟩ | ⟨o0,h⟩
  ·refine E_ct o0 rfl ?_
   refine Zq h (fun (s:Unit) e w=>∃ (g:Gh) ,Fr gI wI g w) (fun X13 r8 x8 h=>?_) ?_
   ·refine Zf (Za (Zn (.bool (y4)) rfl rfl ?_))
    refine Zb (Zd ?_)
    rcases Zt h with ⟨u3,h⟩ | ⟨u3,h⟩
    ·refine E_ct u3 rfl ?_
     refine Zf (Za (Zg (.int .i64 (0)) rfl rfl ?_))
     refine Zb (Zd (E_ret (thn_r ?_)))
     refine thn_r ?_
     obtain rfl:=sinj h
     exact end1 rfl rfl (show _=.int .i64 (0) from rfl) ⟨_,hfr,rfl⟩
    ·refine E_cf u3 rfl ?_
     exact Zu (Zd (x8 () _ _ ⟨g3,hfr⟩ h))
   ·rintro _ z9 w15 ⟨aB, hfr⟩ h
    refine Zf (Za (Zg (.int .i64 (-1)) rfl rfl ?_))
    refine Zb (Zd (E_ret (thn_r ?_)))
    obtain rfl:=sinj h
    exact end1 rfl rfl (show _=.int .i64 (-1) from rfl) ⟨_,hfr,rfl⟩
  ·refine E_cf o0 rfl ?_
   exact Zu (Zd (v8 () _ _ ⟨g3,hfr,rfl,rfl,rfl⟩ h))
 ·rintro _ bA dB ⟨n9, hfr, y6, i7, m7⟩ h
  refine Zq h (fun (s:Unit) e w=>∃ (g:Gh) ,Fr gI wI g w∧e 0=.int .i64 (x0)∧e 1=.int .i64 (x1)) (fun X18 k18 a9 h=>?_) ?_
  ·refine Zf (Za (Zo m7 rfl ?_))
   refine Zb (Zd ?_)
   rcases Zt h with ⟨l5,h⟩ | ⟨l5,h⟩
   ·refine E_ct l5 rfl ?_
    refine Zf (Za (Zg (.int .i64 (1)) rfl rfl ?_))
    refine Zb (Zd (E_ret (thn_r ?_)))
    obtain rfl:=sinj h
    exact end1 rfl rfl (show _=.int .i64 (1) from rfl) ⟨_,hfr,rfl⟩
   ·refine E_cf l5 rfl ?_
    exact Zu (Zd (a9 () _ _ ⟨n9,hfr,y6,i7⟩ h))
  ·rintro _ iA iB ⟨u9, hfr, i6, x6⟩ h
   refine Zq h (fun (s:Unit) e w=>∃ (g:Gh) ,Fr gI wI g w∧e 0=.int .i64 (x0)∧e 1=.int .i64 (x1)) (fun X22 m8 d9 h=>?_) ?_
   ·refine Zf (Za (Zo i6 rfl ?_))
    refine Zo x6 rfl ?_
    refine EL_in (.bool ((decide (x0 < x1)))) rfl rfl rfl rfl ?_
    refine Zb (Zd ?_)
    rcases Zt h with ⟨t5,h⟩ | ⟨t5,h⟩
    ·refine E_ct t5 rfl ?_
     refine Zf (Za (Zg (.int .i64 (-1)) rfl rfl ?_))
     refine Zb (Zd (E_ret (thn_r ?_)))
     obtain rfl:=sinj h
     exact end1 rfl rfl (show _=.int .i64 (-1) from rfl) ⟨_,hfr,rfl⟩
    ·refine E_cf t5 rfl ?_
     exact Zu (Zd (d9 () _ _ ⟨u9,hfr,i6,x6⟩ h))
   ·rintro _ rA lB ⟨y9, hfr, g8, k8⟩ h
    refine Zq h (fun (s:Unit) e w=>∃ (g:Gh) ,Fr gI wI g w) (fun X26 l8 k9 h=>?_) ?_
    ·refine Zf (Za (Zo g8 rfl ?_))
     refine Zo k8 rfl ?_
     refine EL_in (.bool ((decide (x0 > x1)))) rfl rfl rfl rfl ?_
     refine Zb (Zd ?_)
     rcases Zt h with ⟨x5,h⟩ | ⟨x5,h⟩
     ·refine E_ct x5 rfl ?_
      refine Zf (Za (Zg (.int .i64 (1)) rfl rfl ?_))
      refine Zb (Zd (E_ret (thn_r ?_)))
      obtain rfl:=sinj h
      exact end1 rfl rfl (show _=.int .i64 (1) from rfl) ⟨_,hfr,rfl⟩
     ·refine E_cf x5 rfl ?_
      exact Zu (Zd (k9 () _ _ ⟨y9,hfr⟩ h))
    ·rintro _ yA mB ⟨nB, hfr⟩ h
     refine Zf (Za (Zg (.int .i64 (0)) rfl rfl ?_))
     refine Zb (Zd (E_ret ?_))
     obtain rfl:=sinj h
     exact end1 rfl rfl (show _=.int .i64 (0) from rfl) ⟨_,hfr,rfl⟩
def f71 (x0:PaySheet):Option ((List Int) × (List Int) × Int × Int):=
 Option.bind (α:=(List Int)) (
  lp (σ:=(List Int) × Int) (fun bI (vB,u3)=>
   bif (decide (u3 < ((((x0).PayTable).Rows).length : Int))) then
    Option.bind (α:=(List Int)) (
     (idx (((x0).PayTable).Rows) u3).bind fun y130=>
     (f115 y130).bind fun i7=>
     (idx (((x0).PayTable).Across) u3).bind fun m7=>
     (apnd 8 vB (([(w64 (i7 - m7))]:List Int))).bind fun aE=>
     some (aE)
     ) fun r8=>
    bI (r8,(w64 (u3 + (1:Int))))
   else
    some (vB)
   ) big ([],(0:Int))
  ) fun i6=>
 Option.bind (α:=(List Int)) (
  lp (σ:=(List Int) × Int) (fun bE (rA,o0)=>
   bif (decide (o0 < ((((x0).PayTable).Down).length : Int))) then
    Option.bind (α:=(List Int)) (
     (idx (((x0).PayTable).Down) o0).bind fun d9=>
     (f116 x0 o0).bind fun iE=>
     (f115 iE).bind fun yA=>
     (apnd 8 rA (([(w64 (yA - d9))]:List Int))).bind fun lE=>
     some (lE)
     ) fun v8=>
    bE (v8,(w64 (o0 + (1:Int))))
   else
    some (rA)
   ) big ([],(0:Int))
  ) fun n9=>
 (f115 (((x0).PayTable).Across)).bind fun k9=>
 (f115 (((x0).PayTable).Down)).bind fun l9=>
 some (i6,n9,(w64 (k9 - ((x0).PayTable).Total)),(w64 (l9 - ((x0).PayTable).Total)))
theorem en71:Enters Tryz.prog 71:=enters_of Tryz.func71 (by kernel_rfl) rfl
theorem wk71 {gI:Gh} {wI:World} {x0:PaySheet} {up0:Value} (rp0:RV gI.m wI x0 up0) {r:(List Int) × (List Int) × Int × Int} (h:f71 x0=some r):Fn Tryz.prog 71 #[up0] gI wI (fun m w v=>∃ y0 y1 y2 y3,v=.tuple #[y0,y1,y2,y3]∧RV m w (r.1) y0∧RV m w (r.2.1) y1∧y2=.int .i64 (r.2.2.1)∧y3=.int .i64 (r.2.2.2)):=by
 unfold f71 at h
 refine fn_of_E Tryz.func71 rfl (Nat.le_of_ble_eq_true rfl) fun g0 hm hfr=>?_
 have rp0:RV g0.m wI x0 up0:=hm ▸ rp0
 show E _ 69 none _ _ _ _ _
 refine Zf (Za (Ze .plain rfl (D_box (g:=g0) rfl rp0 fun g1 w1 p1 hs q1=>?_)))
 have hfr:=hfr.ext hs
 refine Zg (.slice none 0 0) rfl rfl ?_
 refine Zg (.slice none 0 0) rfl rfl ?_
 refine Zg (.int .i64 (0)) rfl rfl ?_
 refine Zg (.int .i64 (0)) rfl rfl ?_
 refine Zb (Zd ?_)
 obtain ⟨i6,hx,h⟩:=bsome h
 refine E_join (fun e w=>∃ (g:Gh) (v2:Value),Fr gI wI g w∧e 1=p1∧PT g.m w (x0:PaySheet) p1∧e 2=v2∧RV g.m w (i6:List Int) v2∧OS 1002 g w 3 (i6:List Int) v2∧e 3=.slice none 0 0∧RV g.m w ([]:List Int) (Value.slice none 0 0)) (fun Q' hQ=>?_) (fun oK xK hR=>?_)
 ·replace h := hx
  clear hx
  refine Zf (Za (EL_p (fPtr p1 0) (Zc at_173_0 rfl (PT.ptr q1)) rfl ?_))
  have dI:=Zm (part_PaySheet_0).1 q1
  refine EL_p (fPtr (fPtr p1 0) 0) (Zc at_91_0 rfl (PT.ptr dI)) rfl ?_
  have lK:=Zm (part_PayTable_0).1 dI
  refine Ze .plain rfl (D_load (g:=g1) Tryz.isAgg35 Tryz.sizeOf35 rfl lK fun mC iI=>?_)
  refine EL_p (.int .i64 ((((x0).PayTable).Rows).length:Int)) (P_len Tryz.underlying35 rfl iI) rfl ?_
  refine Zn (.int .i64 (0)) rfl rfl ?_
  refine Zb (Zd (Zr ?_))
  refine E_lp h (fun (s:(List Int) × Int) e w=>∃ (g:Gh) (v2:Value),Fr gI wI g w∧e 1=p1∧PT g.m w (x0:PaySheet) p1∧e 2=v2∧RV g.m w (s.1:List Int) v2∧OS 1002 g w 3 (s.1:List Int) v2∧e 3=.slice none 0 0∧RV g.m w ([]:List Int) (Value.slice none 0 0)∧e 12=mC∧RV g.m w (((x0).PayTable).Rows:List (List Int)) mC∧e 13=.int .i64 (((((x0).PayTable).Rows).length:Int))∧e 14=.int .i64 (s.2)) ⟨g1,(.slice none 0 0),hfr,rfl,q1,rfl,RV_nil,OS.nil,rfl,RV_nil,rfl,iI,rfl,rfl⟩ (fun X89 bI jI=>?_)
  rintro ⟨vB,u3⟩ yK yL ⟨mE,eD,hfr,yB,n8,gD,bA,iA,iD,x8,qC,m8,rC,u9⟩ h
  refine Zf (Za (EL_p (.bool ((decide (u3 < ((((x0).PayTable).Rows).length:Int))))) (P_int u9 rC rfl) rfl ?_))
  refine Zb (Zd (Zf ?_))
  rcases Zt h with ⟨bD,h⟩ | ⟨bD,h⟩
  ·refine E_ct bD rfl ?_
   refine Zu (Zd ?_)
   obtain ⟨r8,hx,h⟩:=bsome h
   refine E_join (fun e w=>∃ (g:Gh) (v2:Value),Fr gI wI g w∧e 1=p1∧PT g.m w (x0:PaySheet) p1∧e 2=v2∧RV g.m w (r8:List Int) v2∧OS 1002 g w 3 (r8:List Int) v2∧e 3=.slice none 0 0∧RV g.m w ([]:List Int) (Value.slice none 0 0)∧e 12=mC∧RV g.m w (((x0).PayTable).Rows:List (List Int)) mC∧e 13=.int .i64 (((((x0).PayTable).Rows).length:Int))∧e 14=.int .i64 (u3)) (fun Q' hQ=>?_) (fun pK zK hR=>?_)
   ·replace h := hx
    clear hx
    refine Zr ?_
    refine Zf (Za (Zo u9 rfl ?_))
    obtain ⟨y130,jD,h⟩:=bsome h
    refine EL_p (ePtr mC u3 1) (Zh (α:=List Int) Tryz.underlying35 Tryz.sizeOf28 qC m8 u9 jD) rfl ?_
    have kI:=PT_idx m8 jD
    refine Ze .plain rfl (D_load (g:=mE) Tryz.isAgg28 Tryz.sizeOf28 rfl kI fun cD lI=>?_)
    refine Zg (.int .i64 (u3)) rfl rfl ?_
    refine Zg cD rfl rfl ?_
    refine Zb (Zd ?_)
    obtain ⟨i7,kH,h⟩:=bsome h
    have oE:=Zm (part_PaySheet_0).1 n8
    have mI:=Zm (part_PayTable_1).1 oE
    refine Zs (x:=.tmp 23) Tryz.isAgg28 Tryz.sizeOf28 mI fun rE uE lH=>?_
    obtain ⟨m7,lD,h⟩:=bsome h
    have nI:=PT_idx uE lD
    refine Zs (x:=.tmp 26) Tryz.isAgg3 Tryz.sizeOf3 nI fun aL pI mH=>?_
    obtain rfl:=Zj.1 pI
    refine E_drawL (g:=mE) (n:=11) [(2,(fun v g w=>v=.int .i64 (i7))),(10,(fun v g w=>RV g.m w ([(w64 (i7 - m7))]:List Int) v∧OS 3029 g w 3 ([(w64 (i7 - m7))]:List Int) v∧FullV v))] [0,1,2,3,4,5,6,7,8,9,10] rfl mixed (by kernel_rfl) (⟨fun _=>up_eq _,fun _=>up_and up_rv (up_and up_os (up_eq _)),trivial⟩) ?_
    refine L_p eD rfl rfl (Zk gD) ?_
    refine L_p cD rfl rfl (Zk rfl) ?_
    refine L_do (φ:=fun v g w=>v=.int .i64 (i7)) rfl rfl .plain (fun g w hd=>Zp (g:=g) (vs:=[cD]) en115 (.cons rfl .nil) (wk115 (lI.ext hd.1) kH) fun g' w' v hs hr=>⟨g',hs,hr⟩) (fun bL hv=>?_)
    obtain ⟨_,_,_,rfl⟩:=hv
    refine L_p (fPtr p1 0) rfl rfl (Zc at_173_0 yB (PT.ptr n8)) ?_
    refine L_p (fPtr (fPtr p1 0) 1) rfl rfl (Zc at_91_1 rfl (PT.ptr oE)) ?_
    refine L_ld (c:=rE) rfl rfl .plain (fun _ _ h=>h.ch) lH rfl ?_
    refine L_p (.int .i64 (u3)) rfl rfl (Zk rfl) ?_
    refine L_p (ePtr rE u3 1) rfl rfl (Zh (α:=Int) Tryz.underlying28 Tryz.sizeOf3 rfl uE rfl lD) ?_
    refine L_ld (c:=.int .i64 (m7)) rfl rfl .plain (fun _ _ h=>h.ch) mH rfl ?_
    refine L_p (.int .i64 ((w64 (i7 - m7)))) rfl rfl (P_int rfl rfl rfl) ?_
    refine L_do (φ:=fun v g w=>RV g.m w ([(w64 (i7 - m7))]:List Int) v∧OS 3029 g w 3 ([(w64 (i7 - m7))]:List Int) v∧FullV v) rfl rfl .plain (fun g w hd=>D_buildSlice (g:=g) 3029 (xs:=([(w64 (i7 - m7))]:List Int)) (vs:=[.int .i64 ((w64 (i7 - m7)))]) Tryz.underlying28 Tryz.sizeOf3 Tryz.zeroValue3 rfl rfl (.cons rfl .nil) (RVs.cons (Zj.2 rfl) RVs.nil) rfl rfl fun g' w' v hs o r hxt hfl=>⟨g',hxt,r,o,hfl⟩) (fun z9 hv=>?_)
    clear hv
    refine L_nil fun qI dL hall=>?_
    have hs:=hall.1
    have hfr:=hfr.ext hs
    have n8:=n8.ext hs
    have bA:=bA.ext hs
    have iA:=iA.ext hs
    have x8:=x8.ext hs
    have m8:=m8.ext hs
    have sI:=(word_all (A:=fun g w=>RV g.m w ([(w64 (i7 - m7))]:List Int) z9∧OS 3029 g w 3 ([(w64 (i7 - m7))]:List Int) z9∧FullV z9) 10 rfl hall).1
    have o165:=(word_all (A:=fun g w=>RV g.m w ([(w64 (i7 - m7))]:List Int) z9∧OS 3029 g w 3 ([(w64 (i7 - m7))]:List Int) z9∧FullV z9) 10 rfl hall).2.1
    clear hs hall
    obtain ⟨aE,nH,h⟩:=bsome h
    refine Ze .plain rfl (D_append (g:=qI) (i:=1002) Tryz.underlying28 info_3 rfl rfl iA bA rfl sI nH fun tI eL vE hs o166 uI _=>?_)
    have hfr:=hfr.stp hs
    have n8:=n8.stp hs
    have x8:=x8.stp hs
    have m8:=m8.stp hs
    refine Zg vE rfl rfl ?_
    refine Zb (blk_n ?_)
    obtain rfl:=sinj h
    exact hQ _ _ ⟨tI,(vE),hfr,yB,n8,rfl,uI,o166,iD,x8,qC,m8,rC,u9⟩
   ·clear hx
    obtain ⟨vI,xE,hfr,yE,zE,cF,dF,eF,rF,sF,oD,sD,tD,uD⟩:=hR
    refine Za (EL_in (.int .i64 ((w64 (u3 + (1:Int))))) uD rfl rfl rfl ?_)
    refine Zn (.int .i64 ((w64 (u3 + (1:Int))))) rfl rfl ?_
    exact Zb (Zd (jI (r8,(w64 (u3 + (1:Int)))) _ _ ⟨vI,(xE),hfr,yE,zE,cF,dF,eF,rF,sF,oD,sD,tD,rfl⟩ h))
  ·refine E_cf bD rfl ?_
   refine E_exit ?_
   refine thn_e ?_
   refine thn_e ?_
   refine blk_hit ?_
   obtain rfl:=sinj h
   exact hQ _ _ ⟨mE,(eD),hfr,yB,n8,gD,bA,iA,iD,x8⟩
 ·clear hx
  obtain ⟨tF,t5,hfr,uC,aB,uF,vF,xF,yF,zF⟩:=hR
  obtain ⟨n9,hx,h⟩:=bsome h
  refine E_join (fun e w=>∃ (g:Gh) (v3:Value),Fr gI wI g w∧e 1=p1∧PT g.m w (x0:PaySheet) p1∧e 2=t5∧RV g.m w (i6:List Int) t5∧OS 1002 g w 3 (i6:List Int) t5∧e 3=v3∧RV g.m w (n9:List Int) v3∧OS 1003 g w 3 (n9:List Int) v3) (fun Q' hQ=>?_) (fun qK gL hR=>?_)
  ·replace h := hx
   clear hx
   refine Zf (Za (EL_p (fPtr p1 0) (Zc at_173_0 uC (PT.ptr aB)) rfl ?_))
   have aG:=Zm (part_PaySheet_0).1 aB
   refine EL_p (fPtr (fPtr p1 0) 2) (Zc at_91_2 rfl (PT.ptr aG)) rfl ?_
   have yI:=Zm (part_PayTable_2).1 aG
   refine Ze .plain rfl (D_load (g:=tF) Tryz.isAgg28 Tryz.sizeOf28 rfl yI fun dB bG=>?_)
   refine EL_p (.int .i64 ((((x0).PayTable).Down).length:Int)) (P_len Tryz.underlying28 rfl bG) rfl ?_
   refine Zn (.int .i64 (0)) rfl rfl ?_
   refine Zb (Zd (Zr ?_))
   refine E_lp h (fun (s:(List Int) × Int) e w=>∃ (g:Gh) (v3:Value),Fr gI wI g w∧e 1=p1∧PT g.m w (x0:PaySheet) p1∧e 2=t5∧RV g.m w (i6:List Int) t5∧OS 1002 g w 3 (i6:List Int) t5∧e 3=v3∧RV g.m w (s.1:List Int) v3∧OS 1003 g w 3 (s.1:List Int) v3∧e 34=dB∧RV g.m w (((x0).PayTable).Down:List Int) dB∧e 35=.int .i64 (((((x0).PayTable).Down).length:Int))∧e 36=.int .i64 (s.2)) ⟨tF,(.slice none 0 0),hfr,uC,aB,uF,vF,xF,yF,zF,OS.nil,rfl,bG,rfl,rfl⟩ (fun X202 bE oH=>?_)
   rintro ⟨rA,o0⟩ sK iL ⟨zB,cG,hfr,iB,x5,vC,x6,y6,aD,g8,k8,oB,l5,tB,a9⟩ h
   refine Zf (Za (EL_p (.bool ((decide (o0 < ((((x0).PayTable).Down).length:Int))))) (P_int a9 tB rfl) rfl ?_))
   refine Zb (Zd (Zf ?_))
   rcases Zt h with ⟨cC,h⟩ | ⟨cC,h⟩
   ·refine E_ct cC rfl ?_
    refine Zu (Zd ?_)
    obtain ⟨v8,hx,h⟩:=bsome h
    refine E_join (fun e w=>∃ (g:Gh) (v3:Value),Fr gI wI g w∧e 1=p1∧PT g.m w (x0:PaySheet) p1∧e 2=t5∧RV g.m w (i6:List Int) t5∧OS 1002 g w 3 (i6:List Int) t5∧e 3=v3∧RV g.m w (v8:List Int) v3∧OS 1003 g w 3 (v8:List Int) v3∧e 34=dB∧RV g.m w (((x0).PayTable).Down:List Int) dB∧e 35=.int .i64 (((((x0).PayTable).Down).length:Int))∧e 36=.int .i64 (o0)) (fun Q' hQ=>?_) (fun tK jL hR=>?_)
    ·replace h := hx
     clear hx
     refine Zr ?_
     refine Zf (Za (Zo a9 rfl ?_))
     obtain ⟨d9,nD,h⟩:=bsome h
     refine EL_p (ePtr dB o0 1) (Zh (α:=Int) Tryz.underlying28 Tryz.sizeOf3 oB l5 a9 nD) rfl ?_
     have zI:=PT_idx l5 nD
     refine Ze .plain rfl (D_load (g:=zB) Tryz.isAgg3 Tryz.sizeOf3 rfl zI fun lL eJ=>?_)
     obtain rfl:=Zj.1 eJ
     refine Zg (.int .i64 (o0)) rfl rfl ?_
     refine Zg (.int .i64 (d9)) rfl rfl ?_
     refine Zb (Zd (Za (Zo aD rfl ?_)))
     refine Ze .plain rfl (D_load (g:=zB) Tryz.isAgg173 Tryz.sizeOf173 iB x5 fun gJ iJ=>?_)
     refine Zn (.int .i64 (o0)) rfl rfl ?_
     obtain ⟨iE,pH,h⟩:=bsome h
     refine Ze .plain rfl (Zp (g:=zB) (vs:=[gJ,.int .i64 (o0)]) en116 (.cons rfl (.cons rfl .nil)) (wk116 iJ pH) fun jJ uK kJ hs hr=>?_)
     have hfr:=hfr.ext hs
     have x5:=x5.ext hs
     have x6:=x6.ext hs
     have y6:=y6.ext hs
     have g8:=g8.ext hs
     have k8:=k8.ext hs
     have l5:=l5.ext hs
     have lJ:=hr
     obtain ⟨yA,qH,h⟩:=bsome h
     refine Ze .plain rfl (Zp (g:=jJ) (vs:=[kJ]) en115 (.cons rfl .nil) (wk115 lJ qH) fun mJ vK mL hs hr=>?_)
     have hfr:=hfr.ext hs
     have x5:=x5.ext hs
     have x6:=x6.ext hs
     have y6:=y6.ext hs
     have g8:=g8.ext hs
     have k8:=k8.ext hs
     have l5:=l5.ext hs
     subst hr
     refine Zn (.int .i64 (d9)) rfl rfl ?_
     refine EL_in (.int .i64 ((w64 (yA - d9)))) rfl rfl rfl rfl ?_
     refine Ze .plain rfl (D_buildSlice (g:=mJ) 3048 (xs:=([(w64 (yA - d9))]:List Int)) (vs:=[.int .i64 ((w64 (yA - d9)))]) Tryz.underlying28 Tryz.sizeOf3 Tryz.zeroValue3 rfl rfl (.cons rfl .nil) (RVs.cons (Zj.2 rfl) RVs.nil) rfl rfl fun nJ nL oL hs o224 oJ hxt hfl=>?_)
     have hfr:=hfr.stp hs
     have x5:=x5.stp hs
     have x6:=x6.stp hs
     have y6:=y6.stp hs rfl
     have g8:=g8.stp hs
     have k8:=k8.stp hs rfl
     have l5:=l5.stp hs
     obtain ⟨lE,sH,h⟩:=bsome h
     refine Ze .plain rfl (D_append (g:=nJ) (i:=1003) Tryz.underlying28 info_3 rfl rfl k8 g8 rfl oJ sH fun pJ pL eG hs o225 qJ _=>?_)
     have hfr:=hfr.stp hs
     have x5:=x5.stp hs
     have x6:=x6.stp hs
     have y6:=y6.stp hs rfl
     have l5:=l5.stp hs
     refine Zg eG rfl rfl ?_
     refine Zb (blk_n ?_)
     obtain rfl:=sinj h
     exact hQ _ _ ⟨pJ,(eG),hfr,iB,x5,vC,x6,y6,rfl,qJ,o225,oB,l5,tB,a9⟩
    ·clear hx
     obtain ⟨rJ,gG,hfr,hG,iG,jG,kG,lG,mG,sG,xG,vD,xD,yD,zD⟩:=hR
     refine Za (EL_in (.int .i64 ((w64 (o0 + (1:Int))))) zD rfl rfl rfl ?_)
     refine Zn (.int .i64 ((w64 (o0 + (1:Int))))) rfl rfl ?_
     exact Zb (Zd (oH (v8,(w64 (o0 + (1:Int)))) _ _ ⟨rJ,(gG),hfr,hG,iG,jG,kG,lG,mG,sG,xG,vD,xD,yD,rfl⟩ h))
   ·refine E_cf cC rfl ?_
    refine E_exit ?_
    refine thn_e ?_
    refine thn_e ?_
    refine blk_hit ?_
    obtain rfl:=sinj h
    exact hQ _ _ ⟨zB,(cG),hfr,iB,x5,vC,x6,y6,aD,g8,k8⟩
  ·clear hx
   obtain ⟨sJ,lB,hfr,y9,l8,yG,mB,mK,zG,nB,nK⟩:=hR
   refine Zf ?_
   have aH:=Zm (part_PaySheet_0).1 l8
   have vJ:=Zm (part_PayTable_1).1 aH
   refine Zs (x:=.tmp 54) Tryz.isAgg28 Tryz.sizeOf28 vJ fun cH xJ tH=>?_
   obtain ⟨k9,uH,h⟩:=bsome h
   have dH:=Zm (part_PaySheet_0).1 l8
   have yJ:=Zm (part_PayTable_3).1 dH
   refine Zs (x:=.tmp 58) Tryz.isAgg3 Tryz.sizeOf3 yJ fun qL zJ xH=>?_
   obtain rfl:=Zj.1 zJ
   have gH:=Zm (part_PaySheet_0).1 l8
   have aK:=Zm (part_PayTable_2).1 gH
   refine Zs (x:=.tmp 62) Tryz.isAgg28 Tryz.sizeOf28 aK fun iH bK yH=>?_
   obtain ⟨l9,zH,h⟩:=bsome h
   have jH:=Zm (part_PaySheet_0).1 l8
   have cK:=Zm (part_PayTable_3).1 jH
   refine Zs (x:=.tmp 66) Tryz.isAgg3 Tryz.sizeOf3 cK fun rL dK aI=>?_
   obtain rfl:=Zj.1 dK
   refine E_drawL (g:=sJ) (n:=22) [(5,(fun v g w=>v=.int .i64 (k9))),(13,(fun v g w=>v=.int .i64 (l9)))] [0,1,2,3,4,5,6,7,8,9,10,11,12,13,14,15,16,17,18,19,20,21] rfl mixed (by kernel_rfl) (⟨fun _=>up_eq _,fun _=>up_eq _,trivial⟩) ?_
   refine L_p t5 rfl rfl (Zk yG) ?_
   refine L_p lB rfl rfl (Zk zG) ?_
   refine L_p (fPtr p1 0) rfl rfl (Zc at_173_0 y9 (PT.ptr l8)) ?_
   refine L_p (fPtr (fPtr p1 0) 1) rfl rfl (Zc at_91_1 rfl (PT.ptr aH)) ?_
   refine L_ld (c:=cH) rfl rfl .plain (fun _ _ h=>h.ch) tH rfl ?_
   refine L_do (φ:=fun v g w=>v=.int .i64 (k9)) rfl rfl .plain (fun g w hd=>Zp (g:=g) (vs:=[cH]) en115 (.cons rfl .nil) (wk115 (xJ.ext hd.1) uH) fun g' w' v hs hr=>⟨g',hs,hr⟩) (fun tL hv=>?_)
   obtain ⟨_,_,_,rfl⟩:=hv
   refine L_p (fPtr p1 0) rfl rfl (Zc at_173_0 y9 (PT.ptr l8)) ?_
   refine L_p (fPtr (fPtr p1 0) 3) rfl rfl (Zc at_91_3 rfl (PT.ptr dH)) ?_
   refine L_ld (c:=.int .i64 (((x0).PayTable).Total)) rfl rfl .plain (fun _ _ h=>h.ch) xH rfl ?_
   refine L_p (.int .i64 ((w64 (k9 - ((x0).PayTable).Total)))) rfl rfl (P_int rfl rfl rfl) ?_
   refine L_p (fPtr p1 0) rfl rfl (Zc at_173_0 y9 (PT.ptr l8)) ?_
   refine L_p (fPtr (fPtr p1 0) 2) rfl rfl (Zc at_91_2 rfl (PT.ptr gH)) ?_
   refine L_ld (c:=iH) rfl rfl .plain (fun _ _ h=>h.ch) yH rfl ?_
   refine L_do (φ:=fun v g w=>v=.int .i64 (l9)) rfl rfl .plain (fun g w hd=>Zp (g:=g) (vs:=[iH]) en115 (.cons rfl .nil) (wk115 (bK.ext hd.1) zH) fun g' w' v hs hr=>⟨g',hs,hr⟩) (fun uL hv=>?_)
   obtain ⟨_,_,_,rfl⟩:=hv
   refine L_p (fPtr p1 0) rfl rfl (Zc at_173_0 y9 (PT.ptr l8)) ?_
   refine L_p (fPtr (fPtr p1 0) 3) rfl rfl (Zc at_91_3 rfl (PT.ptr jH)) ?_
   refine L_ld (c:=.int .i64 (((x0).PayTable).Total)) rfl rfl .plain (fun _ _ h=>h.ch) aI rfl ?_
   refine L_p (.int .i64 ((w64 (l9 - ((x0).PayTable).Total)))) rfl rfl (P_int rfl rfl rfl) ?_
   refine L_p t5 rfl rfl (P_assign rfl) ?_
   refine L_p lB rfl rfl (P_assign rfl) ?_
   refine L_p (.int .i64 ((w64 (k9 - ((x0).PayTable).Total)))) rfl rfl (P_assign rfl) ?_
   refine L_p (.int .i64 ((w64 (l9 - ((x0).PayTable).Total)))) rfl rfl (P_assign rfl) ?_
   refine L_nl fun vL xL hs=>?_
   have hfr:=hfr.ext hs
   have mB:=mB.ext hs
   have nB:=nB.ext hs
   clear hs
   refine Zb (Zd (E_ret ?_))
   obtain rfl:=sinj h
   exact end4 rfl rfl (show _=t5 from rfl) (show _=lB from rfl) (show _=.int .i64 ((w64 (k9 - ((x0).PayTable).Total))) from rfl) (show _=.int .i64 ((w64 (l9 - ((x0).PayTable).Total))) from rfl) ⟨_,hfr,_,_,_,_,rfl,mB,nB,rfl,rfl⟩
def f72 (x0:List Int) (x1:Int→Option Bool):Option (Bool):=
 (f117 x0 x1).bind fun y2=>
 some ((decide (y2 ≥ (0:Int))))
theorem en72:Enters Tryz.prog 72:=enters_of Tryz.func72 (by kernel_rfl) rfl
theorem wk72 {gI:Gh} {wI:World} {x0:List Int} {x1:Int→Option Bool} {up0:Value} (rp0:RV gI.m wI x0 up0) {up1:Value} (rp1:FnV1 Tryz.prog x1 up1 gI wI) {r:Bool} (h:f72 x0 x1=some r):Fn Tryz.prog 72 #[up0,up1] gI wI (fun _ _ v=>v=.bool (r)):=by
 unfold f72 at h
 refine fn_of_E Tryz.func72 rfl (Nat.le_of_ble_eq_true rfl) fun g0 hm hfr=>?_
 have rp0:RV g0.m wI x0 up0:=hm ▸ rp0
 obtain ⟨ff1,fa1,fc1,rfl,fen1,fcl1⟩:=rp1
 show E _ 9 none _ _ _ _ _
 refine Zf (Za (Zg (.bool false) rfl rfl ?_))
 refine Zb (Zd (Zf (Za (Zn up0 rfl rfl ?_))))
 refine Zn ((.func (.func ff1) fa1 fc1)) rfl rfl ?_
 obtain ⟨y2,hy2,h⟩:=bsome h
 refine Ze .plain rfl (Zp (g:=g0) (vs:=[up0,(.func (.func ff1) fa1 fc1)]) en117 (.cons rfl (.cons rfl .nil)) (wk117 rp0 (FnV1.ch ⟨_,_,_,rfl,fen1,fcl1⟩ hfr.ch) hy2) fun g1 w1_ v1 hs hr=>?_)
 have hfr:=hfr.ext hs
 subst hr
 refine EL_in (.bool ((decide (y2 ≥ (0:Int))))) rfl rfl rfl rfl ?_
 refine Zg (.bool ((decide (y2 ≥ (0:Int))))) rfl rfl ?_
 refine Zb (Zd (E_ret ?_))
 obtain rfl:=sinj h
 exact end1 rfl rfl (show _=.bool ((decide (y2 ≥ (0:Int)))) from rfl) ⟨_,hfr,rfl⟩
def f90 (x0:Int) (x1:Int) (x2:List Int):Option (Bool):=
 (f72 x2 ((fun a0=>f134 a0 x0 x1))).bind fun y4=>
 some ((!y4))
theorem en90:Enters Tryz.prog 90:=enters_of Tryz.func90 (by kernel_rfl) rfl
theorem wk90 {gI:Gh} {wI:World} {x0:Int} {x1:Int} {x2:List Int} {up2:Value} (rp2:RV gI.m wI x2 up2) {r:Bool} (h:f90 x0 x1 x2=some r):Fn Tryz.prog 90 #[.int .i64 (x0),.int .i64 (x1),up2] gI wI (fun _ _ v=>v=.bool (r)):=by
 unfold f90 at h
 refine fn_of_E Tryz.func90 rfl (Nat.le_of_ble_eq_true rfl) fun g0 hm hfr=>?_
 have rp2:RV g0.m wI x2 up2:=hm ▸ rp2
 show E _ 11 none _ _ _ _ _
 refine Zf (Za (Ze .plain rfl (D_box (g:=g0) rfl (Zj.2 rfl) fun g1 w1 p1 hs q1=>?_)))
 have hfr:=hfr.ext hs
 have rp2:=rp2.ext hs
 refine Ze .plain rfl (D_box (g:=g1) rfl (Zj.2 rfl) fun g2 w2 p2 hs q2=>?_)
 have hfr:=hfr.ext hs
 have rp2:=rp2.ext hs
 have q1:=q1.ext hs
 refine Zg (.bool false) rfl rfl ?_
 refine Zb (Zd (Zf (Za (Zn up2 rfl rfl ?_))))
 refine EL_p ((.func (.func 134) #[] #[p1,p2])) (P_makeFunc (capf_0_2 (show ev _ _=p1 from rfl) (show ev _ _=p2 from rfl))) rfl ?_
 obtain ⟨y4,o0,h⟩:=bsome h
 refine Ze .plain rfl (Zp (g:=g2) (vs:=[up2,(.func (.func 134) #[] #[p1,p2])]) en72 (.cons rfl (.cons rfl .nil)) (wk72 rp2 ⟨134,#[],#[p1,p2],rfl,en134,fun g' w' hch a0 b0 r hu0 hr=>by obtain rfl:=Zj.1 hu0; exact Fn.mono (wk134  (q1.ch hch) (q2.ch hch) hr) fun _ _ _ h=>RV_bool.2 h⟩ o0) fun g3 w3_ v3 hs hr=>?_)
 have hfr:=hfr.ext hs
 subst hr
 refine EL_p (.bool (!y4)) (P_not rfl) rfl ?_
 refine Zg (.bool (!y4)) rfl rfl ?_
 refine Zb (Zd (E_ret ?_))
 obtain rfl:=sinj h
 exact end1 rfl rfl (show _=.bool (!y4) from rfl) ⟨_,hfr,rfl⟩
def f91 (x0:List LoomOrder) (x1:LoomOrder→Option Bool):Option (Bool):=
 (f135 x0 x1).bind fun y2=>
 some ((decide (y2 ≥ (0:Int))))
theorem en91:Enters Tryz.prog 91:=enters_of Tryz.func91 (by kernel_rfl) rfl
theorem wk91 {gI:Gh} {wI:World} {x0:List LoomOrder} {x1:LoomOrder→Option Bool} {up0:Value} (rp0:RV gI.m wI x0 up0) {up1:Value} (rp1:FnV1 Tryz.prog x1 up1 gI wI) {r:Bool} (h:f91 x0 x1=some r):Fn Tryz.prog 91 #[up0,up1] gI wI (fun _ _ v=>v=.bool (r)):=by
 unfold f91 at h
 refine fn_of_E Tryz.func91 rfl (Nat.le_of_ble_eq_true rfl) fun g0 hm hfr=>?_
 have rp0:RV g0.m wI x0 up0:=hm ▸ rp0
 obtain ⟨ff1,fa1,fc1,rfl,fen1,fcl1⟩:=rp1
 show E _ 9 none _ _ _ _ _
 refine Zf (Za (Zg (.bool false) rfl rfl ?_))
 refine Zb (Zd (Zf (Za (Zn up0 rfl rfl ?_))))
 refine Zn ((.func (.func ff1) fa1 fc1)) rfl rfl ?_
 obtain ⟨y2,hy2,h⟩:=bsome h
 refine Ze .plain rfl (Zp (g:=g0) (vs:=[up0,(.func (.func ff1) fa1 fc1)]) en135 (.cons rfl (.cons rfl .nil)) (wk135 rp0 (FnV1.ch ⟨_,_,_,rfl,fen1,fcl1⟩ hfr.ch) hy2) fun g1 w1_ v1 hs hr=>?_)
 have hfr:=hfr.ext hs
 subst hr
 refine EL_in (.bool ((decide (y2 ≥ (0:Int))))) rfl rfl rfl rfl ?_
 refine Zg (.bool ((decide (y2 ≥ (0:Int))))) rfl rfl ?_
 refine Zb (Zd (E_ret ?_))
 obtain rfl:=sinj h
 exact end1 rfl rfl (show _=.bool ((decide (y2 ≥ (0:Int)))) from rfl) ⟨_,hfr,rfl⟩
def f93 (x0:Int):Option (It Int):=
 some ((fun σ cons s=>f137 x0 σ cons s))
theorem en93:Enters Tryz.prog 93:=enters_of Tryz.func93 (by kernel_rfl) rfl
theorem wk93 {gI:Gh} {wI:World} {x0:Int}  {r:It Int} (h:f93 x0=some r):Fn Tryz.prog 93 #[.int .i64 (x0)] gI wI (fun m w v=>ItV Tryz.prog (RA1 (α:=Int)) (r) v m w):=by
 unfold f93 at h
 refine fn_of_E Tryz.func93 rfl (Nat.le_of_ble_eq_true rfl) fun g0 hm hfr=>?_
 show E _ 4 none _ _ _ _ _
 refine Zf (Za (Ze .plain rfl (D_box (g:=g0) rfl (Zj.2 rfl) fun g1 w1 p1 hs q1=>?_)))
 have hfr:=hfr.ext hs
 refine Zg (.nilFunc) rfl rfl ?_
 refine Zb (Zd (Zf (Za (EL_p ((.func (.func 137) #[] #[p1])) (P_makeFunc (capf_0_1 (show ev _ _=p1 from rfl))) rfl ?_))))
 refine Zg ((.func (.func 137) #[] #[p1])) rfl rfl ?_
 refine Zb (Zd (E_ret ?_))
 obtain rfl:=sinj h
 exact end1 rfl rfl (show _=(.func (.func 137) #[] #[p1]) from rfl) ⟨_,hfr,(show ItV Tryz.prog (RA1 (α:=Int)) (fun σ cons s=>f137 x0 σ cons s) ((.func (.func 137) #[] #[p1])) g1.m w1 from ⟨137,#[],#[p1],rfl,en137,fun g' w' hch σ cons s s' h=>wk137  (q1.ch hch) h⟩)⟩
def f95 (x0:List Int) (x1:List Int):Option (Int):=
 jn (σ:=Unit) (fun _=>
  jn (σ:=Unit) (fun _=>
   some ((0:Int))
   ) fun cC=>
  bif (decide (((x0).length : Int) < ((x1).length : Int))) then
   some ((-1:Int))
  else
   cC ()
  ) fun mC=>
 lp (σ:=Int) (fun k33 o0=>
  bif (decide (o0 < ((x0).length : Int))) then
   jn (σ:=Unit) (fun _=>
    k33 ((w64 (o0 + (1:Int))))
    ) fun qC=>
   (idx x0 o0).bind fun m7=>
   jn (σ:=Unit) (fun _=>
    (idx x1 o0).bind fun g8=>
    (f66 m7 g8).bind fun u3=>
    bif (u3 != (0 : Int)) then
     some (u3)
    else
     qC ()
    ) fun k54=>
   bif (decide (o0 ≥ ((x1).length : Int))) then
    some ((1:Int))
   else
    k54 ()
  else
   mC ()
  ) big ((0:Int))
theorem en95:Enters Tryz.prog 95:=enters_of Tryz.func95 (by kernel_rfl) rfl
theorem wk95 {gI:Gh} {wI:World} {x0:List Int} {x1:List Int} {up0:Value} (rp0:RV gI.m wI x0 up0) {up1:Value} (rp1:RV gI.m wI x1 up1) {r:Int} (h:f95 x0 x1=some r):Fn Tryz.prog 95 #[up0,up1] gI wI (fun _ _ v=>v=.int .i64 (r)):=by
 unfold f95 at h
 refine fn_of_E Tryz.func95 rfl (Nat.le_of_ble_eq_true rfl) fun g0 hm hfr=>?_
 have rp0:RV g0.m wI x0 up0:=hm ▸ rp0
 have rp1:RV g0.m wI x1 up1:=hm ▸ rp1
 show E _ 36 none _ _ _ _ _
 refine Zf (Za (Zg (.int .i64 (0)) rfl rfl ?_))
 refine Zb (Zd (Zq h (fun (s:Unit) e w=>∃ (g:Gh) ,Fr gI wI g w∧e 0=up0∧RV g.m w (x0:List Int) up0∧e 1=up1∧RV g.m w (x1:List Int) up1) (fun X32 mC uC h=>?_) ?_))
 ·refine Zf (Za (Zn up0 rfl rfl ?_))
  refine EL_p (.int .i64 ((x0).length:Int)) (P_len Tryz.underlying28 rfl rp0) rfl ?_
  refine Zn (.int .i64 (0)) rfl rfl ?_
  refine Zb (Zd (Zr ?_))
  refine E_lp h (fun (s:Int) e w=>∃ (g:Gh) ,Fr gI wI g w∧e 0=up0∧RV g.m w (x0:List Int) up0∧e 1=up1∧RV g.m w (x1:List Int) up1∧e 9=up0∧RV g.m w (x0:List Int) up0∧e 10=.int .i64 (((x0).length:Int))∧e 11=.int .i64 (s)) ⟨g0,hfr,rfl,rp0,rfl,rp1,rfl,rp0,rfl,rfl⟩ (fun X33 k33 vC=>?_)
  rintro o0 tD aE ⟨k9,hfr,v8,x8,x5,i6,a9,x6,k8,l5⟩ h
  refine Zf (Za (EL_in (.bool ((decide (o0 < ((x0).length:Int))))) l5 k8 rfl rfl ?_))
  refine Zb (Zd (Zf ?_))
  rcases Zt h with ⟨l8,h⟩ | ⟨l8,h⟩
  ·refine E_ct l8 rfl ?_
   refine Zu (Zd (Zq h (fun (s:Unit) e w=>∃ (g:Gh) ,Fr gI wI g w∧e 0=up0∧RV g.m w (x0:List Int) up0∧e 1=up1∧RV g.m w (x1:List Int) up1∧e 9=up0∧RV g.m w (x0:List Int) up0∧e 10=.int .i64 (((x0).length:Int))∧e 11=.int .i64 (o0)) (fun X49 qC aD h=>?_) ?_))
   ·refine Zr ?_
    refine Zf (Za (Zo l5 rfl ?_))
    obtain ⟨m7,l9,h⟩:=bsome h
    refine EL_p (ePtr up0 o0 1) (Zh (α:=Int) Tryz.underlying28 Tryz.sizeOf3 a9 x6 l5 l9) rfl ?_
    have gD:=PT_idx x6 l9
    refine Ze .plain rfl (D_load (g:=k9) Tryz.isAgg3 Tryz.sizeOf3 rfl gD fun bE iD=>?_)
    obtain rfl:=Zj.1 iD
    refine Zg (.int .i64 (o0)) rfl rfl ?_
    refine Zg (.int .i64 (m7)) rfl rfl ?_
    refine Zb (Zd (Zq h (fun (s:Unit) e w=>∃ (g:Gh) ,Fr gI wI g w∧e 0=up0∧RV g.m w (x0:List Int) up0∧e 1=up1∧RV g.m w (x1:List Int) up1∧e 5=.int .i64 (o0)∧e 6=.int .i64 (m7)∧e 9=up0∧RV g.m w (x0:List Int) up0∧e 10=.int .i64 (((x0).length:Int))∧e 11=.int .i64 (o0)) (fun X54 k54 bD h=>?_) ?_))
    ·refine Zf (Za (Zn (.int .i64 (o0)) rfl rfl ?_))
     refine Zo x5 rfl ?_
     refine EL_p (.int .i64 ((x1).length:Int)) (P_len Tryz.underlying28 rfl i6) rfl ?_
     refine EL_in (.bool ((decide (o0 ≥ ((x1).length:Int))))) rfl rfl rfl rfl ?_
     refine Zb (Zd ?_)
     rcases Zt h with ⟨m8,h⟩ | ⟨m8,h⟩
     ·refine E_ct m8 rfl ?_
      refine Zf (Za (Zg (.int .i64 (1)) rfl rfl ?_))
      refine Zb (Zd (E_ret (thn_r ?_)))
      refine blk_r ?_
      refine thn_r ?_
      refine thn_r ?_
      refine blk_r ?_
      refine thn_r ?_
      obtain rfl:=sinj h
      exact end1 rfl rfl (show _=.int .i64 (1) from rfl) ⟨_,hfr,rfl⟩
     ·refine E_cf m8 rfl ?_
      exact Zu (Zd (bD () _ _ ⟨k9,hfr,v8,x8,x5,i6,rfl,rfl,a9,x6,k8,l5⟩ h))
    ·rintro _ uD iE ⟨rC, hfr, iA, y6, d9, t5, rA, yA, aB, i7, n9, u9⟩ h
     refine Zf (Za (Zo d9 rfl ?_))
     refine Zo rA rfl ?_
     obtain ⟨g8,y9,h⟩:=bsome h
     refine EL_p (ePtr up1 o0 1) (Zh (α:=Int) Tryz.underlying28 Tryz.sizeOf3 rfl t5 rfl y9) rfl ?_
     have jD:=PT_idx t5 y9
     refine Ze .plain rfl (D_load (g:=rC) Tryz.isAgg3 Tryz.sizeOf3 rfl jD fun lE lD=>?_)
     obtain rfl:=Zj.1 lD
     refine Zg (.int .i64 (g8)) rfl rfl ?_
     refine Zb (Zd (Zf (Za (Zo yA rfl ?_))))
     refine Zn (.int .i64 (g8)) rfl rfl ?_
     obtain ⟨u3,cD,h⟩:=bsome h
     refine Ze .plain rfl (Zp (g:=rC) (vs:=[.int .i64 (m7),.int .i64 (g8)]) en66 (.cons rfl (.cons rfl .nil)) (wk66  cD) fun nD vD mE hs hr=>?_)
     have hfr:=hfr.ext hs
     have y6:=y6.ext hs
     have t5:=t5.ext hs
     have i7:=i7.ext hs
     subst hr
     refine Zg (.int .i64 (u3)) rfl rfl ?_
     refine Zb (Zd (Zf (Za (Zn (.int .i64 (u3)) rfl rfl ?_))))
     refine EL_in (.bool ((u3 != (0:Int)))) rfl rfl rfl rfl ?_
     refine Zb (Zd ?_)
     rcases Zt h with ⟨n8,h⟩ | ⟨n8,h⟩
     ·refine E_ct n8 rfl ?_
      refine Zf (Za (Zn (.int .i64 (u3)) rfl rfl ?_))
      refine Zg (.int .i64 (u3)) rfl rfl ?_
      refine Zb (Zd (E_ret (blk_r ?_)))
      refine thn_r ?_
      refine thn_r ?_
      refine blk_r ?_
      refine thn_r ?_
      obtain rfl:=sinj h
      exact end1 rfl rfl (show _=.int .i64 (u3) from rfl) ⟨_,hfr,rfl⟩
     ·refine E_cf n8 rfl ?_
      exact Zu (blk_n (Zd (aD () _ _ ⟨nD,hfr,iA,y6,d9,t5,aB,i7,n9,u9⟩ h)))
   ·rintro _ xD oE ⟨oD, hfr, dB, iB, lB, mB, nB, oB, z9, bA⟩ h
    refine Za (EL_in (.int .i64 ((w64 (o0 + (1:Int))))) bA rfl rfl rfl ?_)
    refine Zn (.int .i64 ((w64 (o0 + (1:Int))))) rfl rfl ?_
    exact Zb (Zd (vC ((w64 (o0 + (1:Int)))) _ _ ⟨oD,hfr,dB,iB,lB,mB,nB,oB,z9,rfl⟩ h))
  ·refine E_cf l8 rfl ?_
   refine E_exit ?_
   refine thn_e ?_
   refine thn_e ?_
   refine blk_hit ?_
   exact Zd (uC () _ _ ⟨k9,hfr,v8,x8,x5,i6⟩ h)
 ·rintro _ yD rE ⟨sD, hfr, tB, vB, yB, zB⟩ h
  refine Zq h (fun (s:Unit) e w=>∃ (g:Gh) ,Fr gI wI g w) (fun X67 cC eD h=>?_) ?_
  ·refine Zf (Za (Zo tB rfl ?_))
   refine EL_p (.int .i64 ((x0).length:Int)) (P_len Tryz.underlying28 rfl vB) rfl ?_
   refine Zo yB rfl ?_
   refine EL_p (.int .i64 ((x1).length:Int)) (P_len Tryz.underlying28 rfl zB) rfl ?_
   refine EL_in (.bool ((decide (((x0).length:Int) < ((x1).length:Int))))) rfl rfl rfl rfl ?_
   refine Zb (Zd ?_)
   rcases Zt h with ⟨r8,h⟩ | ⟨r8,h⟩
   ·refine E_ct r8 rfl ?_
    refine Zf (Za (Zg (.int .i64 (-1)) rfl rfl ?_))
    refine Zb (Zd (E_ret (thn_r ?_)))
    obtain rfl:=sinj h
    exact end1 rfl rfl (show _=.int .i64 (-1) from rfl) ⟨_,hfr,rfl⟩
   ·refine E_cf r8 rfl ?_
    exact Zu (Zd (eD () _ _ ⟨sD,hfr⟩ h))
  ·rintro _ zD uE ⟨vE, hfr⟩ h
   refine Zf (Za (Zg (.int .i64 (0)) rfl rfl ?_))
   refine Zb (Zd (E_ret ?_))
   obtain rfl:=sinj h
   exact end1 rfl rfl (show _=.int .i64 (0) from rfl) ⟨_,hfr,rfl⟩
def f118 (x0:PaySheet):Option (Bool):=
 Option.bind (α:=Bool) (
  bif (decide (((((x0).PayTable).Rows).length : Int) > (6 : Int))) then
   some (true)
  else
   (f42 (((x0).PayTable).Rows) ((fun a0=>f150 a0))).bind fun l5=>
   some (l5)
  ) fun u3=>
 some (u3)
theorem en118:Enters Tryz.prog 118:=enters_of Tryz.func118 (by kernel_rfl) rfl
theorem wk118 {gI:Gh} {wI:World} {x0:PaySheet} {up0:Value} (rp0:RV gI.m wI x0 up0) {r:Bool} (h:f118 x0=some r):Fn Tryz.prog 118 #[up0] gI wI (fun _ _ v=>v=.bool (r)):=by
 unfold f118 at h
 refine fn_of_E Tryz.func118 rfl (Nat.le_of_ble_eq_true rfl) fun g0 hm hfr=>?_
 have rp0:RV g0.m wI x0 up0:=hm ▸ rp0
 show E _ 14 none _ _ _ _ _
 refine Zf (Za (Ze .plain rfl (D_box (g:=g0) rfl rp0 fun g1 w1 p1 hs q1=>?_)))
 have hfr:=hfr.ext hs
 refine Zg (.bool false) rfl rfl ?_
 refine Zb (Zd ?_)
 obtain ⟨u3,hx,h⟩:=bsome h
 refine E_join (fun e w=>∃ (g:Gh) ,Fr gI wI g w∧e 2=.bool (u3)) (fun Q' hQ=>?_) (fun m8 r8 hR=>?_)
 ·replace h := hx
  clear hx
  refine Za (EL_p (fPtr p1 0) (Zc at_173_0 rfl (PT.ptr q1)) rfl ?_)
  have x5:=Zm (part_PaySheet_0).1 q1
  refine EL_p (fPtr (fPtr p1 0) 0) (Zc at_91_0 rfl (PT.ptr x5)) rfl ?_
  have y6:=Zm (part_PayTable_0).1 x5
  refine Ze .plain rfl (D_load (g:=g1) Tryz.isAgg35 Tryz.sizeOf35 rfl y6 fun v8 i7=>?_)
  refine EL_p (.int .i64 ((((x0).PayTable).Rows).length:Int)) (P_len Tryz.underlying35 rfl i7) rfl ?_
  refine EL_p (.bool ((decide (((((x0).PayTable).Rows).length:Int) > (6:Int))))) (P_int rfl rfl rfl) rfl ?_
  refine EL_p (.bool ((decide (((((x0).PayTable).Rows).length:Int) > (6:Int))))) (Zk rfl) rfl ?_
  rcases Zt h with ⟨o0,h⟩ | ⟨o0,h⟩
  ·refine EL_s rfl rfl o0 rfl rfl ?_
   iterate 3 refine EL_s rfl rfl o0 rfl rfl ?_
   refine EL_p (.bool true) (Zl (b:=(decide (((((x0).PayTable).Rows).length:Int) > (6:Int)))) rfl (pick_t o0 rfl)) rfl ?_
   refine Zg (.bool true) rfl rfl ?_
   refine Zb ?_
   obtain rfl:=sinj h
   exact hQ _ _ ⟨g1,hfr,rfl⟩
  ·refine EL_y (fPtr p1 0) (Zc at_173_0 rfl (PT.ptr q1)) rfl rfl o0 rfl ?_
   have i6:=Zm (part_PaySheet_0).1 q1
   refine EL_y (fPtr (fPtr p1 0) 0) (Zc at_91_0 rfl (PT.ptr i6)) rfl rfl o0 rfl ?_
   have m7:=Zm (part_PayTable_0).1 i6
   refine Ze (.yes2 rfl rfl o0) rfl (D_load (g:=g1) Tryz.isAgg35 Tryz.sizeOf35 rfl m7 fun g8 k8=>?_)
   obtain ⟨l5,x6,h⟩:=bsome h
   refine Ze (.yes2 rfl rfl o0) rfl (Zp (g:=g1) (vs:=[g8,.func (.func 150) #[] #[]]) en42 (.cons rfl (.cons rfl .nil)) (wk42 k8 ⟨150,#[],#[],rfl,en150,fun g' w' hch a0 b0 r hu0 hr=>by exact Fn.mono (wk150 hu0  hr) fun _ _ _ h=>RV_bool.2 h⟩ x6) fun l8 n8 x8 hs hr=>?_)
   have hfr:=hfr.ext hs
   subst hr
   refine EL_p (.bool (l5)) (Zl (b:=(decide (((((x0).PayTable).Rows).length:Int) > (6:Int)))) rfl (pick_f o0 rfl)) rfl ?_
   refine Zg (.bool (l5)) rfl rfl ?_
   refine Zb ?_
   obtain rfl:=sinj h
   exact hQ _ _ ⟨l8,hfr,rfl⟩
 ·clear hx
  obtain ⟨a9,hfr,t5⟩:=hR
  refine E_ret ?_
  obtain rfl:=sinj h
  exact end1 rfl rfl (show _=.bool (u3) from t5) ⟨_,hfr,rfl⟩
def f119 (x0:PaySheet):Option (Bool):=
 jn (σ:=Unit) (fun _=>
  (f42 (((x0).PayTable).Rows) ((fun a0=>f151 a0 x0))).bind fun i7=>
  some ((!i7))
  ) fun rA=>
 Option.bind (α:=Bool) (
  bif (((((x0).PayTable).Rows).length : Int) == (0 : Int)) then
   some (true)
  else
   (idx (((x0).PayTable).Rows) (0:Int)).bind fun t5=>
   bif (((t5).length : Int) == (0 : Int)) then
    some (true)
   else
    bif (((((x0).PayTable).Across).length : Int) != ((((x0).PayTable).Rows).length : Int)) then
     some (true)
    else
     (idx (((x0).PayTable).Rows) (0:Int)).bind fun m7=>
     some ((((((x0).PayTable).Down).length:Int) != ((m7).length:Int)))
  ) fun x5=>
 bif x5 then
  some (false)
 else
  rA ()
theorem en119:Enters Tryz.prog 119:=enters_of Tryz.func119 (by kernel_rfl) rfl
theorem wk119 {gI:Gh} {wI:World} {x0:PaySheet} {up0:Value} (rp0:RV gI.m wI x0 up0) {r:Bool} (h:f119 x0=some r):Fn Tryz.prog 119 #[up0] gI wI (fun _ _ v=>v=.bool (r)):=by
 unfold f119 at h
 refine fn_of_E Tryz.func119 rfl (Nat.le_of_ble_eq_true rfl) fun g0 hm hfr=>?_
 have rp0:RV g0.m wI x0 up0:=hm ▸ rp0
 show E _ 47 none _ _ _ _ _
 refine Zf (Za (Ze .plain rfl (D_box (g:=g0) rfl rp0 fun g1 w1 p1 hs q1=>?_)))
 have hfr:=hfr.ext hs
 refine Zg (.bool false) rfl rfl ?_
 refine Zb (Zd (Zq h (fun (s:Unit) e w=>∃ (g:Gh) ,Fr gI wI g w∧e 1=p1∧PT g.m w (x0:PaySheet) p1) (fun X395 rA cC h=>?_) ?_))
 ·obtain ⟨x5, hx, h⟩ := bsome h
  refine E_join (fun e w=>∃ (g:Gh) ,Fr gI wI g w∧e 1=p1∧PT g.m w (x0:PaySheet) p1∧e 40=.bool (x5)) (fun Q' hQ=>?_) (fun iE oE hR=>?_)
  ·replace h := hx
   clear hx
   have g8:=Zm (part_PaySheet_0).1 q1
   have vC:=Zm (part_PayTable_0).1 g8
   refine Zs (x:=.tmp 4) Tryz.isAgg35 Tryz.sizeOf35 vC fun m8 n8 x6=>?_
   rcases Zt h with ⟨o0,h⟩ | ⟨o0,h⟩
   ·refine E_drawL (g := g1) (n := 38) [] [0, 1, 2, 3, 4, 5, 6, 7, 8, 9, 10, 11, 12, 13, 14, 15, 16, 17, 18, 19, 20, 21, 22, 23, 24, 25, 26, 27, 28, 29, 30, 31, 32, 33, 34, 35, 36, 37] rfl mixed (by kernel_rfl) trivial ?_
    refine L_p (fPtr p1 0) rfl rfl (Zc at_173_0 rfl (PT.ptr q1)) ?_
    refine L_p (fPtr (fPtr p1 0) 0) rfl rfl (Zc at_91_0 rfl (PT.ptr g8)) ?_
    refine L_ld (c:=m8) rfl rfl .plain (fun _ _ h=>h.ch) x6 rfl ?_
    refine L_p (.int .i64 ((((x0).PayTable).Rows).length:Int)) rfl rfl (P_len Tryz.underlying35 rfl n8) ?_
    refine L_p (.bool ((((((x0).PayTable).Rows).length:Int) == (0:Int)))) rfl rfl (P_int rfl rfl rfl) ?_
    refine L_p (.bool ((((((x0).PayTable).Rows).length:Int) == (0:Int)))) rfl rfl (Zk rfl) ?_
    iterate 7 refine L_s rfl rfl rfl o0 rfl ?_
    refine L_p (.bool true) rfl rfl (Zl (b:=(((((x0).PayTable).Rows).length:Int) == (0:Int))) rfl (pick_t o0 rfl)) ?_
    refine L_dead (fun _=>rfl) 24 rfl ?_
    refine L_nl fun aD rE hs=>?_
    have hfr:=hfr.ext hs
    have q1:=q1.ext hs
    clear hs
    refine Zb ?_
    obtain rfl:=sinj h
    exact hQ _ _ ⟨aD,hfr,rfl,q1,rfl⟩
   ·have r8 := Zm (part_PaySheet_0).1 q1
    have bD:=Zm (part_PayTable_0).1 r8
    refine Zs (x:=.tmp 10) Tryz.isAgg35 Tryz.sizeOf35 bD fun i6 v8 x8=>?_
    obtain ⟨t5,y6,h⟩:=bsome h
    have cD:=PT_idx v8 y6
    refine Zs (x:=.tmp 12) Tryz.isAgg28 Tryz.sizeOf28 cD fun l9 n9 a9=>?_
    rcases Zt h with ⟨u3,h⟩ | ⟨u3,h⟩
    ·refine E_drawL (g := g1) (n := 38) [] [0, 1, 2, 3, 4, 5, 6, 7, 8, 9, 10, 11, 12, 13, 14, 15, 16, 17, 18, 19, 20, 21, 22, 23, 24, 25, 26, 27, 28, 29, 30, 31, 32, 33, 34, 35, 36, 37] rfl mixed (by kernel_rfl) trivial ?_
     refine L_p (fPtr p1 0) rfl rfl (Zc at_173_0 rfl (PT.ptr q1)) ?_
     refine L_p (fPtr (fPtr p1 0) 0) rfl rfl (Zc at_91_0 rfl (PT.ptr g8)) ?_
     refine L_ld (c:=m8) rfl rfl .plain (fun _ _ h=>h.ch) x6 rfl ?_
     refine L_p (.int .i64 ((((x0).PayTable).Rows).length:Int)) rfl rfl (P_len Tryz.underlying35 rfl n8) ?_
     refine L_p (.bool ((((((x0).PayTable).Rows).length:Int) == (0:Int)))) rfl rfl (P_int rfl rfl rfl) ?_
     refine L_p (.bool ((((((x0).PayTable).Rows).length:Int) == (0:Int)))) rfl rfl (Zk rfl) ?_
     refine L_y (fPtr p1 0) rfl rfl rfl rfl o0 (Zc at_173_0 rfl (PT.ptr q1)) ?_
     refine L_y (fPtr (fPtr p1 0) 0) rfl rfl rfl rfl o0 (Zc at_91_0 rfl (PT.ptr r8)) ?_
     refine L_ld (c:=i6) rfl rfl (.yes2 rfl rfl o0) (fun _ _ h=>h.ch) x8 rfl ?_
     refine L_y (ePtr i6 (0:Int) 1) rfl rfl rfl rfl o0 (Zh (α:=List Int) Tryz.underlying35 Tryz.sizeOf28 rfl v8 rfl y6) ?_
     refine L_ld (c:=l9) rfl rfl (.yes2 rfl rfl o0) (fun _ _ h=>h.ch) a9 rfl ?_
     refine L_y (.int .i64 ((t5).length:Int)) rfl rfl rfl rfl o0 (P_len Tryz.underlying28 rfl n9) ?_
     refine L_y (.bool ((((t5).length:Int) == (0:Int)))) rfl rfl rfl rfl o0 (P_int rfl rfl rfl) ?_
     refine L_p (.bool ((((t5).length:Int) == (0:Int)))) rfl rfl (Zl (b:=(((((x0).PayTable).Rows).length:Int) == (0:Int))) rfl (pick_f o0 rfl)) ?_
     refine L_p (.bool ((((t5).length:Int) == (0:Int)))) rfl rfl (Zk rfl) ?_
     iterate 9 refine L_s rfl rfl rfl u3 rfl ?_
     refine L_p (.bool true) rfl rfl (Zl (b:=(((t5).length:Int) == (0:Int))) rfl (pick_t u3 rfl)) ?_
     refine L_dead (fun _=>rfl) 13 rfl ?_
     refine L_nl fun eD uE hs=>?_
     have hfr:=hfr.ext hs
     have q1:=q1.ext hs
     clear hs
     refine Zb ?_
     obtain rfl:=sinj h
     exact hQ _ _ ⟨eD,hfr,rfl,q1,rfl⟩
    ·have u9 := Zm (part_PaySheet_0).1 q1
     have gD:=Zm (part_PayTable_1).1 u9
     refine Zs (x:=.tmp 19) Tryz.isAgg28 Tryz.sizeOf28 gD fun yA aB z9=>?_
     have y9:=Zm (part_PaySheet_0).1 q1
     have iD:=Zm (part_PayTable_0).1 y9
     refine Zs (x:=.tmp 23) Tryz.isAgg35 Tryz.sizeOf35 iD fun dB iB bA=>?_
     rcases Zt h with ⟨l5,h⟩ | ⟨l5,h⟩
     ·refine E_drawL (g := g1) (n := 38) [] [0, 1, 2, 3, 4, 5, 6, 7, 8, 9, 10, 11, 12, 13, 14, 15, 16, 17, 18, 19, 20, 21, 22, 23, 24, 25, 26, 27, 28, 29, 30, 31, 32, 33, 34, 35, 36, 37] rfl mixed (by kernel_rfl) trivial ?_
      refine L_p (fPtr p1 0) rfl rfl (Zc at_173_0 rfl (PT.ptr q1)) ?_
      refine L_p (fPtr (fPtr p1 0) 0) rfl rfl (Zc at_91_0 rfl (PT.ptr g8)) ?_
      refine L_ld (c:=m8) rfl rfl .plain (fun _ _ h=>h.ch) x6 rfl ?_
      refine L_p (.int .i64 ((((x0).PayTable).Rows).length:Int)) rfl rfl (P_len Tryz.underlying35 rfl n8) ?_
      refine L_p (.bool ((((((x0).PayTable).Rows).length:Int) == (0:Int)))) rfl rfl (P_int rfl rfl rfl) ?_
      refine L_p (.bool ((((((x0).PayTable).Rows).length:Int) == (0:Int)))) rfl rfl (Zk rfl) ?_
      refine L_y (fPtr p1 0) rfl rfl rfl rfl o0 (Zc at_173_0 rfl (PT.ptr q1)) ?_
      refine L_y (fPtr (fPtr p1 0) 0) rfl rfl rfl rfl o0 (Zc at_91_0 rfl (PT.ptr r8)) ?_
      refine L_ld (c:=i6) rfl rfl (.yes2 rfl rfl o0) (fun _ _ h=>h.ch) x8 rfl ?_
      refine L_y (ePtr i6 (0:Int) 1) rfl rfl rfl rfl o0 (Zh (α:=List Int) Tryz.underlying35 Tryz.sizeOf28 rfl v8 rfl y6) ?_
      refine L_ld (c:=l9) rfl rfl (.yes2 rfl rfl o0) (fun _ _ h=>h.ch) a9 rfl ?_
      refine L_y (.int .i64 ((t5).length:Int)) rfl rfl rfl rfl o0 (P_len Tryz.underlying28 rfl n9) ?_
      refine L_y (.bool ((((t5).length:Int) == (0:Int)))) rfl rfl rfl rfl o0 (P_int rfl rfl rfl) ?_
      refine L_p (.bool ((((t5).length:Int) == (0:Int)))) rfl rfl (Zl (b:=(((((x0).PayTable).Rows).length:Int) == (0:Int))) rfl (pick_f o0 rfl)) ?_
      refine L_p (.bool ((((t5).length:Int) == (0:Int)))) rfl rfl (Zk rfl) ?_
      refine L_y (fPtr p1 0) rfl rfl rfl rfl u3 (Zc at_173_0 rfl (PT.ptr q1)) ?_
      refine L_y (fPtr (fPtr p1 0) 1) rfl rfl rfl rfl u3 (Zc at_91_1 rfl (PT.ptr u9)) ?_
      refine L_ld (c:=yA) rfl rfl (.yes2 rfl rfl u3) (fun _ _ h=>h.ch) z9 rfl ?_
      refine L_y (.int .i64 ((((x0).PayTable).Across).length:Int)) rfl rfl rfl rfl u3 (P_len Tryz.underlying28 rfl aB) ?_
      refine L_y (fPtr p1 0) rfl rfl rfl rfl u3 (Zc at_173_0 rfl (PT.ptr q1)) ?_
      refine L_y (fPtr (fPtr p1 0) 0) rfl rfl rfl rfl u3 (Zc at_91_0 rfl (PT.ptr y9)) ?_
      refine L_ld (c:=dB) rfl rfl (.yes2 rfl rfl u3) (fun _ _ h=>h.ch) bA rfl ?_
      refine L_y (.int .i64 ((((x0).PayTable).Rows).length:Int)) rfl rfl rfl rfl u3 (P_len Tryz.underlying35 rfl iB) ?_
      refine L_y (.bool ((((((x0).PayTable).Across).length:Int) != ((((x0).PayTable).Rows).length:Int)))) rfl rfl rfl rfl u3 (P_int rfl rfl rfl) ?_
      refine L_p (.bool ((((((x0).PayTable).Across).length:Int) != ((((x0).PayTable).Rows).length:Int)))) rfl rfl (Zl (b:=(((t5).length:Int) == (0:Int))) rfl (pick_f u3 rfl)) ?_
      refine L_p (.bool ((((((x0).PayTable).Across).length:Int) != ((((x0).PayTable).Rows).length:Int)))) rfl rfl (Zk rfl) ?_
      iterate 11 refine L_s rfl rfl rfl l5 rfl ?_
      refine L_p (.bool true) rfl rfl (Zl (b:=(((((x0).PayTable).Across).length:Int) != ((((x0).PayTable).Rows).length:Int))) rfl (pick_t l5 rfl)) ?_
      refine L_nl fun jD vE hs=>?_
      have hfr:=hfr.ext hs
      have q1:=q1.ext hs
      clear hs
      refine Zb ?_
      obtain rfl:=sinj h
      exact hQ _ _ ⟨jD,hfr,rfl,q1,rfl⟩
     ·have lB := Zm (part_PaySheet_0).1 q1
      have lD:=Zm (part_PayTable_2).1 lB
      refine Zs (x:=.tmp 30) Tryz.isAgg28 Tryz.sizeOf28 lD fun nD oD mC=>?_
      have mB:=Zm (part_PaySheet_0).1 q1
      have sD:=Zm (part_PayTable_0).1 mB
      refine Zs (x:=.tmp 34) Tryz.isAgg35 Tryz.sizeOf35 sD fun nB oB qC=>?_
      obtain ⟨m7,iA,h⟩:=bsome h
      have tD:=PT_idx oB iA
      refine Zs (x:=.tmp 36) Tryz.isAgg28 Tryz.sizeOf28 tD fun uD vD rC=>?_
      refine E_drawL (g:=g1) (n:=38) [] [0,1,2,3,4,5,6,7,8,9,10,11,12,13,14,15,16,17,18,19,20,21,22,23,24,25,26,27,28,29,30,31,32,33,34,35,36,37] rfl mixed (by kernel_rfl) trivial ?_
      refine L_p (fPtr p1 0) rfl rfl (Zc at_173_0 rfl (PT.ptr q1)) ?_
      refine L_p (fPtr (fPtr p1 0) 0) rfl rfl (Zc at_91_0 rfl (PT.ptr g8)) ?_
      refine L_ld (c:=m8) rfl rfl .plain (fun _ _ h=>h.ch) x6 rfl ?_
      refine L_p (.int .i64 ((((x0).PayTable).Rows).length:Int)) rfl rfl (P_len Tryz.underlying35 rfl n8) ?_
      refine L_p (.bool ((((((x0).PayTable).Rows).length:Int) == (0:Int)))) rfl rfl (P_int rfl rfl rfl) ?_
      refine L_p (.bool ((((((x0).PayTable).Rows).length:Int) == (0:Int)))) rfl rfl (Zk rfl) ?_
      refine L_y (fPtr p1 0) rfl rfl rfl rfl o0 (Zc at_173_0 rfl (PT.ptr q1)) ?_
      refine L_y (fPtr (fPtr p1 0) 0) rfl rfl rfl rfl o0 (Zc at_91_0 rfl (PT.ptr r8)) ?_
      refine L_ld (c:=i6) rfl rfl (.yes2 rfl rfl o0) (fun _ _ h=>h.ch) x8 rfl ?_
      refine L_y (ePtr i6 (0:Int) 1) rfl rfl rfl rfl o0 (Zh (α:=List Int) Tryz.underlying35 Tryz.sizeOf28 rfl v8 rfl y6) ?_
      refine L_ld (c:=l9) rfl rfl (.yes2 rfl rfl o0) (fun _ _ h=>h.ch) a9 rfl ?_
      refine L_y (.int .i64 ((t5).length:Int)) rfl rfl rfl rfl o0 (P_len Tryz.underlying28 rfl n9) ?_
      refine L_y (.bool ((((t5).length:Int) == (0:Int)))) rfl rfl rfl rfl o0 (P_int rfl rfl rfl) ?_
      refine L_p (.bool ((((t5).length:Int) == (0:Int)))) rfl rfl (Zl (b:=(((((x0).PayTable).Rows).length:Int) == (0:Int))) rfl (pick_f o0 rfl)) ?_
      refine L_p (.bool ((((t5).length:Int) == (0:Int)))) rfl rfl (Zk rfl) ?_
      refine L_y (fPtr p1 0) rfl rfl rfl rfl u3 (Zc at_173_0 rfl (PT.ptr q1)) ?_
      refine L_y (fPtr (fPtr p1 0) 1) rfl rfl rfl rfl u3 (Zc at_91_1 rfl (PT.ptr u9)) ?_
      refine L_ld (c:=yA) rfl rfl (.yes2 rfl rfl u3) (fun _ _ h=>h.ch) z9 rfl ?_
      refine L_y (.int .i64 ((((x0).PayTable).Across).length:Int)) rfl rfl rfl rfl u3 (P_len Tryz.underlying28 rfl aB) ?_
      refine L_y (fPtr p1 0) rfl rfl rfl rfl u3 (Zc at_173_0 rfl (PT.ptr q1)) ?_
      refine L_y (fPtr (fPtr p1 0) 0) rfl rfl rfl rfl u3 (Zc at_91_0 rfl (PT.ptr y9)) ?_
      refine L_ld (c:=dB) rfl rfl (.yes2 rfl rfl u3) (fun _ _ h=>h.ch) bA rfl ?_
      refine L_y (.int .i64 ((((x0).PayTable).Rows).length:Int)) rfl rfl rfl rfl u3 (P_len Tryz.underlying35 rfl iB) ?_
      refine L_y (.bool ((((((x0).PayTable).Across).length:Int) != ((((x0).PayTable).Rows).length:Int)))) rfl rfl rfl rfl u3 (P_int rfl rfl rfl) ?_
      refine L_p (.bool ((((((x0).PayTable).Across).length:Int) != ((((x0).PayTable).Rows).length:Int)))) rfl rfl (Zl (b:=(((t5).length:Int) == (0:Int))) rfl (pick_f u3 rfl)) ?_
      refine L_p (.bool ((((((x0).PayTable).Across).length:Int) != ((((x0).PayTable).Rows).length:Int)))) rfl rfl (Zk rfl) ?_
      refine L_y (fPtr p1 0) rfl rfl rfl rfl l5 (Zc at_173_0 rfl (PT.ptr q1)) ?_
      refine L_y (fPtr (fPtr p1 0) 2) rfl rfl rfl rfl l5 (Zc at_91_2 rfl (PT.ptr lB)) ?_
      refine L_ld (c:=nD) rfl rfl (.yes2 rfl rfl l5) (fun _ _ h=>h.ch) mC rfl ?_
      refine L_y (.int .i64 ((((x0).PayTable).Down).length:Int)) rfl rfl rfl rfl l5 (P_len Tryz.underlying28 rfl oD) ?_
      refine L_y (fPtr p1 0) rfl rfl rfl rfl l5 (Zc at_173_0 rfl (PT.ptr q1)) ?_
      refine L_y (fPtr (fPtr p1 0) 0) rfl rfl rfl rfl l5 (Zc at_91_0 rfl (PT.ptr mB)) ?_
      refine L_ld (c:=nB) rfl rfl (.yes2 rfl rfl l5) (fun _ _ h=>h.ch) qC rfl ?_
      refine L_y (ePtr nB (0:Int) 1) rfl rfl rfl rfl l5 (Zh (α:=List Int) Tryz.underlying35 Tryz.sizeOf28 rfl oB rfl iA) ?_
      refine L_ld (c:=uD) rfl rfl (.yes2 rfl rfl l5) (fun _ _ h=>h.ch) rC rfl ?_
      refine L_y (.int .i64 ((m7).length:Int)) rfl rfl rfl rfl l5 (P_len Tryz.underlying28 rfl vD) ?_
      refine L_y (.bool ((((((x0).PayTable).Down).length:Int) != ((m7).length:Int)))) rfl rfl rfl rfl l5 (P_int rfl rfl rfl) ?_
      refine L_p (.bool ((((((x0).PayTable).Down).length:Int) != ((m7).length:Int)))) rfl rfl (Zl (b:=(((((x0).PayTable).Across).length:Int) != ((((x0).PayTable).Rows).length:Int))) rfl (pick_f l5 rfl)) ?_
      refine L_nl fun xD xE hs=>?_
      have hfr:=hfr.ext hs
      have q1:=q1.ext hs
      clear hs
      refine Zb ?_
      obtain rfl:=sinj h
      exact hQ _ _ ⟨xD,hfr,rfl,q1,rfl⟩
  ·clear hx
   obtain ⟨yD,hfr,tB,vB,l8⟩:=hR
   rcases Zt h with ⟨d9,h⟩ | ⟨d9,h⟩
   ·refine E_cond_true (Eq.trans (show ev _ _ = .bool (x5) from l8) (congrArg Value.bool d9)) ?_
    refine Zf (Za (Zg (.bool false) rfl rfl ?_))
    refine Zb (Zd (E_ret (thn_r ?_)))
    obtain rfl:=sinj h
    exact end1 rfl rfl (show _=.bool false from rfl) ⟨_,hfr,rfl⟩
   ·refine E_cond_false (Eq.trans (show ev _ _ = .bool (x5) from l8) (congrArg Value.bool d9)) ?_
    exact Zu (Zd (cC () _ _ ⟨yD,hfr,tB,vB⟩ h))
 ·rintro _ lE yE ⟨yB, hfr, k9, k8⟩ h
  refine Zf (Za (EL_p (fPtr p1 0) (Zc at_173_0 k9 (PT.ptr k8)) rfl ?_))
  have zB:=Zm (part_PaySheet_0).1 k8
  refine EL_p (fPtr (fPtr p1 0) 0) (Zc at_91_0 rfl (PT.ptr zB)) rfl ?_
  have zD:=Zm (part_PayTable_0).1 zB
  refine Ze .plain rfl (D_load (g:=yB) Tryz.isAgg35 Tryz.sizeOf35 rfl zD fun aE bE=>?_)
  refine EL_p ((.func (.func 151) #[] #[p1])) (P_makeFunc (capf_0_1 (show ev _ _=p1 from k9))) rfl ?_
  obtain ⟨i7,uC,h⟩:=bsome h
  refine Ze .plain rfl (Zp (g:=yB) (vs:=[aE,(.func (.func 151) #[] #[p1])]) en42 (.cons rfl (.cons rfl .nil)) (wk42 bE ⟨151,#[],#[p1],rfl,en151,fun g' w' hch a0 b0 r hu0 hr=>by exact Fn.mono (wk151 hu0 (k8.ch hch) hr) fun _ _ _ h=>RV_bool.2 h⟩ uC) fun zE mE cF hs hr=>?_)
  have hfr:=hfr.ext hs
  subst hr
  refine EL_p (.bool (!i7)) (P_not rfl) rfl ?_
  refine Zg (.bool (!i7)) rfl rfl ?_
  refine Zb (Zd (E_ret ?_))
  obtain rfl:=sinj h
  exact end1 rfl rfl (show _=.bool (!i7) from rfl) ⟨_,hfr,rfl⟩
def f133 (x0:List Int):Option (Bool):=
 (f90 ((0:Int)) ((300:Int)) x0).bind fun y2=>
 some (y2)
theorem en133:Enters Tryz.prog 133:=enters_of Tryz.func133 (by kernel_rfl) rfl
theorem wk133 {gI:Gh} {wI:World} {x0:List Int} {up0:Value} (rp0:RV gI.m wI x0 up0) {r:Bool} (h:f133 x0=some r):Fn Tryz.prog 133 #[up0] gI wI (fun _ _ v=>v=.bool (r)):=by
 unfold f133 at h
 refine fn_of_E Tryz.func133 rfl (Nat.le_of_ble_eq_true rfl) fun g0 hm hfr=>?_
 have rp0:RV g0.m wI x0 up0:=hm ▸ rp0
 show E _ 5 none _ _ _ _ _
 refine Zf (Za (Zg (.bool false) rfl rfl ?_))
 refine Zb (Zd (Zf (Za (Zn up0 rfl rfl ?_))))
 obtain ⟨y2,hy2,h⟩:=bsome h
 refine Ze .plain rfl (Zp (g:=g0) (vs:=[.int .i64 (0),.int .i64 (300),up0]) en90 (.cons rfl (.cons rfl (.cons rfl .nil))) (wk90 rp0 hy2) fun g1 w1_ v1 hs hr=>?_)
 have hfr:=hfr.ext hs
 subst hr
 refine Zg (.bool (y2)) rfl rfl ?_
 refine Zb (Zd (E_ret ?_))
 obtain rfl:=sinj h
 exact end1 rfl rfl (show _=.bool (y2) from rfl) ⟨_,hfr,rfl⟩
def f136 (x0:LoomLoomMill) (x1:Vector (Vector Int 7) 128) (x2:Int) (x3:Int) (x4:Int) (x5:List (Int × LoomRun)):Option (Int):=
 (shl64 (1:Int) x3).bind fun y2=>
 jn (σ:=Unit) (fun _=>
  Option.bind (α:=Int) (
   lp (σ:=Int × Int) (fun yF (u3,o0)=>
    bif (decide (o0 < (((x0).orders).length : Int))) then
     Option.bind (α:=Int) (
      jn (σ:=Unit) (fun _=>
       (idx (x1).toList (bit64 .andNot x2 y2)).bind fun zF=>
       (idx (zF).toList o0).bind fun r8=>
       Option.bind (α:=Int) (
        (idx ((x0).orders) o0).bind fun nB=>
        (idx ((x0).orders) x3).bind fun oB=>
        bif ((nB).Chain != (oB).Chain) then
         some ((w64 (r8 + ((x0).LoomMill).Change)))
        else
         some (r8)
        ) fun k8=>
       (f155 x0 x3 x4 k8 x5).bind fun tB=>
       some ((min64 u3 tB))
       ) fun aG=>
      Option.bind (α:=Bool) (
       (shr64 (bit64 .andNot x2 y2) o0).bind fun i7=>
       bif ((bit64 .and i7 (1 : Int)) == (0 : Int)) then
        some (true)
       else
        (idx (x1).toList (bit64 .andNot x2 y2)).bind fun bG=>
        (idx (bG).toList o0).bind fun vB=>
        some ((decide (vB ≥ (1048576:Int))))
       ) fun x6=>
      bif x6 then
       some (u3)
      else
       aG ()
      ) fun l8=>
     yF (l8,(w64 (o0 + (1:Int))))
    else
     some (u3)
    ) big ((1048576:Int),(0:Int))
   ) fun y6=>
  some (y6)
  ) fun k7=>
 bif ((bit64 .andNot x2 y2) == (0 : Int)) then
  (f155 x0 x3 x4 ((0:Int)) x5).bind fun y11=>
  some (y11)
 else
  k7 ()
theorem en136:Enters Tryz.prog 136:=enters_of Tryz.func136 (by kernel_rfl) rfl
theorem wk136 {gI:Gh} {wI:World} {x0:LoomLoomMill} {x1:Vector (Vector Int 7) 128} {x2:Int} {x3:Int} {x4:Int} {x5:List (Int × LoomRun)} {up0:Value} (rp0:RV gI.m wI x0 up0) {up1:Value} (rp1:PT gI.m wI x1 up1) {up5:Value} (mq5:MR (Value.int .i64) gI wI x5 up5) {r:Int} (h:f136 x0 x1 x2 x3 x4 x5=some r):Fn Tryz.prog 136 #[up0,up1,.int .i64 (x2),.int .i64 (x3),.int .i64 (x4),up5] gI wI (fun _ _ v=>v=.int .i64 (r)):=by
 unfold f136 at h
 refine fn_of_E Tryz.func136 rfl (Nat.le_of_ble_eq_true rfl) fun g0 hm hfr=>?_
 have rp0:RV g0.m wI x0 up0:=hm ▸ rp0
 have rp1:PT g0.m wI x1 up1:=hm ▸ rp1
 have mq5:=MQ.enter mq5 hm hfr
 show E _ 84 none _ _ _ _ _
 refine Zf (Za (Ze .plain rfl (D_box (g:=g0) rfl rp0 fun g1 w1 p1 hs q1=>?_)))
 have hfr:=hfr.ext hs
 have rp1:=rp1.ext hs
 have mq5:=mq5.ext hs
 refine Zg (.int .i64 (0)) rfl rfl ?_
 refine Zb (Zd (Zf (Za (Zn (.int .i64 (x2)) rfl rfl ?_))))
 refine Zn (.int .i64 (x3)) rfl rfl ?_
 obtain ⟨y2,hy2,h⟩:=bsome h
 refine EL_p (.int .i64 (y2)) (P_int rfl rfl (congrArg (Option.map (Value.int .i64)) hy2)) rfl ?_
 refine EL_in (.int .i64 ((bit64 .andNot x2 y2))) rfl rfl rfl rfl ?_
 refine Zg (.int .i64 ((bit64 .andNot x2 y2))) rfl rfl ?_
 refine Zb (Zd (Zq h (fun (s:Unit) e w=>∃ (g:Gh) ,Fr gI wI g w∧e 1=up1∧PT g.m w (x1:Vector (Vector Int 7) 128) up1∧e 3=.int .i64 (x3)∧e 4=.int .i64 (x4)∧e 5=up5∧MQ (Value.int .i64) wI.heap.size g w (x5:List (Int × LoomRun)) up5∧e 6=p1∧PT g.m w (x0:LoomLoomMill) p1∧e 13=.int .i64 ((bit64 .andNot x2 y2))) (fun X7 k7 hk7 h=>?_) ?_))
 ·refine Zf (Za (Zn (.int .i64 ((bit64 .andNot x2 y2))) rfl rfl ?_))
  refine EL_in (.bool (((bit64 .andNot x2 y2) == (0:Int)))) rfl rfl rfl rfl ?_
  refine Zb (Zd ?_)
  rcases Zt h with ⟨hc8,h⟩ | ⟨hc8,h⟩
  ·refine E_ct hc8 rfl ?_
   refine Zf (Za (Ze .plain rfl (D_load (g:=g1) Tryz.isAgg134 Tryz.sizeOf134 rfl q1 fun v9 r9=>?_)))
   refine Zn (.int .i64 (x3)) rfl rfl ?_
   refine Zn (.int .i64 (x4)) rfl rfl ?_
   refine Zn up5 rfl rfl ?_
   obtain ⟨y11,iI,h⟩:=bsome h
   refine Ze .plain rfl (Zp (g:=g1) (vs:=[v9,.int .i64 (x3),.int .i64 (x4),.int .i64 (0),up5]) en155 (.cons rfl (.cons rfl (.cons rfl (.cons rfl (.cons rfl .nil))))) (wk155 r9 mq5.r iI) fun uK sJ vK hs hr=>?_)
   have hfr:=hfr.ext hs
   subst hr
   refine Zg (.int .i64 (y11)) rfl rfl ?_
   refine Zb (Zd (E_ret (thn_r ?_)))
   obtain rfl:=sinj h
   exact end1 rfl rfl (show _=.int .i64 (y11) from rfl) ⟨_,hfr,rfl⟩
  ·refine E_cf hc8 rfl ?_
   exact Zu (Zd (hk7 () _ _ ⟨g1,hfr,rfl,rp1,rfl,rfl,rfl,mq5,rfl,q1,rfl⟩ h))
 ·rintro _ vJ xK ⟨dI, hfr, lH, mH, nH, oH, pH, qH, lE, yB, cG⟩ h
  refine Zf (Za (Zg (.int .i64 (1048576)) rfl rfl ?_))
  refine Zb (Zd ?_)
  obtain ⟨y6,hx,h⟩:=bsome h
  refine E_join (fun e w=>∃ (g:Gh) ,Fr gI wI g w∧e 14=.int .i64 (y6)) (fun Q' hQ=>?_) (fun lJ xJ hR=>?_)
  ·replace h := hx
   clear hx
   refine Zf (Za (EL_p (fPtr p1 2) (Zc at_134_1 lE (PT.ptr yB)) rfl ?_))
   have jI:=Zm (part_LoomLoomMill_1).1 yB
   refine Ze .plain rfl (D_load (g:=dI) Tryz.isAgg31 Tryz.sizeOf31 rfl jI fun yJ kI=>?_)
   refine EL_p (.int .i64 (((x0).orders).length:Int)) (P_len Tryz.underlying31 rfl kI) rfl ?_
   refine Zn (.int .i64 (0)) rfl rfl ?_
   refine Zb (Zd (Zr ?_))
   refine E_lp h (fun (s:Int × Int) e w=>∃ (g:Gh) ,Fr gI wI g w∧e 1=up1∧PT g.m w (x1:Vector (Vector Int 7) 128) up1∧e 3=.int .i64 (x3)∧e 4=.int .i64 (x4)∧e 5=up5∧MQ (Value.int .i64) wI.heap.size g w (x5:List (Int × LoomRun)) up5∧e 6=p1∧PT g.m w (x0:LoomLoomMill) p1∧e 13=.int .i64 ((bit64 .andNot x2 y2))∧e 14=.int .i64 (s.1)∧e 30=.int .i64 ((((x0).orders).length:Int))∧e 31=.int .i64 (s.2)) ⟨dI,hfr,lH,mH,nH,oH,pH,qH,lE,yB,cG,rfl,rfl,rfl⟩ (fun X310 yF sH=>?_)
   rintro ⟨u3,o0⟩ mJ zJ ⟨zB,hfr,n9,m7,rC,uC,vC,aD,bD,cD,m8,d9,k9,n8⟩ h
   refine Zf (Za (EL_p (.bool ((decide (o0 < (((x0).orders).length:Int))))) (P_int n8 k9 rfl) rfl ?_))
   refine Zb (Zd (Zf ?_))
   rcases Zt h with ⟨cC,h⟩ | ⟨cC,h⟩
   ·refine E_ct cC rfl ?_
    refine Zu (Zd ?_)
    obtain ⟨l8,hx,h⟩:=bsome h
    refine E_join (fun e w=>∃ (g:Gh) ,Fr gI wI g w∧e 1=up1∧PT g.m w (x1:Vector (Vector Int 7) 128) up1∧e 3=.int .i64 (x3)∧e 4=.int .i64 (x4)∧e 5=up5∧MQ (Value.int .i64) wI.heap.size g w (x5:List (Int × LoomRun)) up5∧e 6=p1∧PT g.m w (x0:LoomLoomMill) p1∧e 13=.int .i64 ((bit64 .andNot x2 y2))∧e 14=.int .i64 (l8)∧e 30=.int .i64 ((((x0).orders).length:Int))∧e 31=.int .i64 (o0)) (fun Q' hQ=>?_) (fun nJ aK hR=>?_)
    ·replace h := hx
     clear hx
     refine Zr ?_
     refine Zf (Za (Zo n8 rfl ?_))
     refine Zg (.int .i64 (o0)) rfl rfl ?_
     refine Zb (Zd (Zq h (fun (s:Unit) e w=>∃ (g:Gh) ,Fr gI wI g w∧e 1=up1∧PT g.m w (x1:Vector (Vector Int 7) 128) up1∧e 3=.int .i64 (x3)∧e 4=.int .i64 (x4)∧e 5=up5∧MQ (Value.int .i64) wI.heap.size g w (x5:List (Int × LoomRun)) up5∧e 6=p1∧PT g.m w (x0:LoomLoomMill) p1∧e 13=.int .i64 ((bit64 .andNot x2 y2))∧e 14=.int .i64 (u3)∧e 15=.int .i64 (o0)∧e 30=.int .i64 ((((x0).orders).length:Int))∧e 31=.int .i64 (o0)) (fun X475 aG tH h=>?_) ?_))
     ·obtain ⟨x6, hx, h⟩ := bsome h
      refine E_join (fun e w=>∃ (g:Gh) ,Fr gI wI g w∧e 1=up1∧PT g.m w (x1:Vector (Vector Int 7) 128) up1∧e 3=.int .i64 (x3)∧e 4=.int .i64 (x4)∧e 5=up5∧MQ (Value.int .i64) wI.heap.size g w (x5:List (Int × LoomRun)) up5∧e 6=p1∧PT g.m w (x0:LoomLoomMill) p1∧e 13=.int .i64 ((bit64 .andNot x2 y2))∧e 14=.int .i64 (u3)∧e 15=.int .i64 (o0)∧e 30=.int .i64 ((((x0).orders).length:Int))∧e 31=.int .i64 (o0)∧e 48=.bool (x6)) (fun Q' hQ=>?_) (fun oJ bK hR=>?_)
      ·replace h := hx
       clear hx
       refine Za (Zo m8 rfl ?_)
       refine Zn (.int .i64 (o0)) rfl rfl ?_
       obtain ⟨i7,uH,h⟩:=bsome h
       refine EL_p (.int .i64 (i7)) (P_int rfl rfl (congrArg (Option.map (Value.int .i64)) uH)) rfl ?_
       refine EL_in (.int .i64 ((bit64 .and i7 (1:Int)))) rfl rfl rfl rfl ?_
       refine EL_in (.bool (((bit64 .and i7 (1:Int)) == (0:Int)))) rfl rfl rfl rfl ?_
       refine Zn (.bool (((bit64 .and i7 (1:Int)) == (0:Int)))) rfl rfl ?_
       rcases Zt h with ⟨l5,h⟩ | ⟨l5,h⟩
       ·refine EL_s rfl rfl l5 rfl rfl ?_
        iterate 7 refine EL_s rfl rfl l5 rfl rfl ?_
        refine EL_p (.bool true) (Zl (b:=((bit64 .and i7 (1:Int)) == (0:Int))) rfl (pick_t l5 rfl)) rfl ?_
        refine Zb ?_
        obtain rfl:=sinj h
        exact hQ _ _ ⟨zB,hfr,n9,m7,rC,uC,vC,aD,bD,cD,m8,d9,rfl,k9,n8,rfl⟩
       ·refine EL_y up1 (Zk n9) rfl rfl l5 rfl ?_
        refine EL_y (.int .i64 ((bit64 .andNot x2 y2))) (Zk m8) rfl rfl l5 rfl ?_
        refine EL_y (.int .i64 (o0)) (Zk rfl) rfl rfl l5 rfl ?_
        obtain ⟨pb486,po486,pe486⟩:=PT.ptr m7
        refine EL_y up1 (P_nilCk rfl pe486) rfl rfl l5 rfl ?_
        obtain ⟨bG,mE,h⟩:=bsome h
        refine EL_y (fPtr up1 (((bit64 .andNot x2 y2):Int).toNat * 7)) (P_indexAddrA (α:=Vector Int 7) Tryz.underlying245 Tryz.sizeOf243 rfl (PT.ptr m7) rfl mE) rfl rfl l5 rfl ?_
        have eG:=PT_idxA m7 mE
        obtain ⟨vB,oE,h⟩:=bsome h
        refine EL_y (fPtr (fPtr up1 (((bit64 .andNot x2 y2):Int).toNat * 7)) ((o0:Int).toNat * 1)) (P_indexAddrA (α:=Int) Tryz.underlying243 Tryz.sizeOf3 rfl (PT.ptr eG) rfl oE) rfl rfl l5 rfl ?_
        have lI:=PT_idxA eG oE
        refine Ze (.yes2 rfl rfl l5) rfl (D_load (g:=zB) Tryz.isAgg3 Tryz.sizeOf3 rfl lI fun cK mI=>?_)
        obtain rfl:=Zj.1 mI
        refine EL_y (.bool ((decide (vB ≥ (1048576:Int))))) (P_int rfl rfl rfl) rfl rfl l5 rfl ?_
        refine EL_p (.bool ((decide (vB ≥ (1048576:Int))))) (Zl (b:=((bit64 .and i7 (1:Int)) == (0:Int))) rfl (pick_f l5 rfl)) rfl ?_
        refine Zb ?_
        obtain rfl:=sinj h
        exact hQ _ _ ⟨zB,hfr,n9,m7,rC,uC,vC,aD,bD,cD,m8,d9,rfl,k9,n8,rfl⟩
      ·clear hx
       obtain ⟨gG,hfr,eD,gD,iD,jD,lD,nD,oD,sD,bA,iA,yE,rA,yA,aB⟩:=hR
       rcases Zt h with ⟨mC,h⟩ | ⟨mC,h⟩
       ·refine E_cond_true (Eq.trans (show ev _ _ = .bool (x6) from aB) (congrArg Value.bool mC)) ?_
        refine E_exit ?_
        refine thn_e ?_
        refine blk_hit ?_
        obtain rfl:=sinj h
        exact hQ _ _ ⟨gG,hfr,eD,gD,iD,jD,lD,nD,oD,sD,bA,iA,rA,yA⟩
       ·refine E_cond_false (Eq.trans (show ev _ _ = .bool (x6) from aB) (congrArg Value.bool mC)) ?_
        exact Zu (Zd (tH () _ _ ⟨gG,hfr,eD,gD,iD,jD,lD,nD,oD,sD,bA,iA,yE,rA,yA⟩ h))
     ·rintro _ pJ dK ⟨hG, hfr, u9, i6, y9, tD, uD, v8, g8, t5, l9, dB, iB, lB, mB⟩ h
      refine Zf (Za (Zo u9 rfl ?_))
      refine Zo l9 rfl ?_
      refine Zo iB rfl ?_
      obtain ⟨pb495,po495,pe495⟩:=PT.ptr i6
      refine EL_p up1 (P_nilCk rfl pe495) rfl ?_
      obtain ⟨zF,rE,h⟩:=bsome h
      refine EL_p (fPtr up1 (((bit64 .andNot x2 y2):Int).toNat * 7)) (P_indexAddrA (α:=Vector Int 7) Tryz.underlying245 Tryz.sizeOf243 rfl (PT.ptr i6) rfl rE) rfl ?_
      have iG:=PT_idxA i6 rE
      obtain ⟨r8,uE,h⟩:=bsome h
      refine EL_p (fPtr (fPtr up1 (((bit64 .andNot x2 y2):Int).toNat * 7)) ((o0:Int).toNat * 1)) (P_indexAddrA (α:=Int) Tryz.underlying243 Tryz.sizeOf3 rfl (PT.ptr iG) rfl uE) rfl ?_
      have nI:=PT_idxA iG uE
      refine Ze .plain rfl (D_load (g:=hG) Tryz.isAgg3 Tryz.sizeOf3 rfl nI fun lK pI=>?_)
      obtain rfl:=Zj.1 pI
      refine Zg (.int .i64 (r8)) rfl rfl ?_
      refine Zb (Zd ?_)
      obtain ⟨k8,hx,h⟩:=bsome h
      refine E_join (fun e w=>∃ (g:Gh) ,Fr gI wI g w∧e 1=up1∧PT g.m w (x1:Vector (Vector Int 7) 128) up1∧e 3=.int .i64 (x3)∧e 4=.int .i64 (x4)∧e 5=up5∧MQ (Value.int .i64) wI.heap.size g w (x5:List (Int × LoomRun)) up5∧e 6=p1∧PT g.m w (x0:LoomLoomMill) p1∧e 13=.int .i64 ((bit64 .andNot x2 y2))∧e 14=.int .i64 (u3)∧e 16=.int .i64 (k8)∧e 30=.int .i64 ((((x0).orders).length:Int))∧e 31=.int .i64 (o0)) (fun Q' hQ=>?_) (fun qJ mK hR=>?_)
      ·replace h := hx
       clear hx
       refine Zf ?_
       have qI:=Zm (part_LoomLoomMill_1).1 t5
       refine Zs (x:=.tmp 56) Tryz.isAgg31 Tryz.sizeOf31 qI fun aE jG xH=>?_
       obtain ⟨nB,vE,h⟩:=bsome h
       have kG:=PT_idx jG vE
       have sI:=Zm (part_LoomOrder_1).1 kG
       refine Zs (x:=.tmp 60) Tryz.isAgg3 Tryz.sizeOf3 sI fun nK tI yH=>?_
       obtain rfl:=Zj.1 tI
       have uI:=Zm (part_LoomLoomMill_1).1 t5
       refine Zs (x:=.tmp 62) Tryz.isAgg31 Tryz.sizeOf31 uI fun bE lG zH=>?_
       obtain ⟨oB,xE,h⟩:=bsome h
       have mG:=PT_idx lG xE
       have vI:=Zm (part_LoomOrder_1).1 mG
       refine Zs (x:=.tmp 66) Tryz.isAgg3 Tryz.sizeOf3 vI fun oK yI aI=>?_
       obtain rfl:=Zj.1 yI
       refine E_drawL (g:=hG) (n:=13) [] [0,1,2,3,4,5,6,7,8,9,10,11,12] rfl mixed (by kernel_rfl) trivial ?_
       refine L_p (fPtr p1 2) rfl rfl (Zc at_134_1 g8 (PT.ptr t5)) ?_
       refine L_ld (c:=aE) rfl rfl .plain (fun _ _ h=>h.ch) xH rfl ?_
       refine L_p (.int .i64 (o0)) rfl rfl (Zk iB) ?_
       refine L_p (ePtr aE o0 5) rfl rfl (Zh (α:=LoomOrder) Tryz.underlying31 Tryz.sizeOf49 rfl jG rfl vE) ?_
       refine L_p (fPtr (ePtr aE o0 5) 1) rfl rfl (Zc at_49_1 rfl (PT.ptr kG)) ?_
       refine L_ld (c:=.int .i64 ((nB).Chain)) rfl rfl .plain (fun _ _ h=>h.ch) yH rfl ?_
       refine L_p (fPtr p1 2) rfl rfl (Zc at_134_1 g8 (PT.ptr t5)) ?_
       refine L_ld (c:=bE) rfl rfl .plain (fun _ _ h=>h.ch) zH rfl ?_
       refine L_p (.int .i64 (x3)) rfl rfl (Zk y9) ?_
       refine L_p (ePtr bE x3 5) rfl rfl (Zh (α:=LoomOrder) Tryz.underlying31 Tryz.sizeOf49 rfl lG rfl xE) ?_
       refine L_p (fPtr (ePtr bE x3 5) 1) rfl rfl (Zc at_49_1 rfl (PT.ptr mG)) ?_
       refine L_ld (c:=.int .i64 ((oB).Chain)) rfl rfl .plain (fun _ _ h=>h.ch) aI rfl ?_
       refine L_p (.bool (((nB).Chain != (oB).Chain))) rfl rfl (P_int rfl rfl rfl) ?_
       refine L_nl fun iE pK hs=>?_
       have hfr:=hfr.ext hs
       have i6:=i6.ext hs
       have v8:=v8.ext hs
       have t5:=t5.ext hs
       clear hs
       refine Zb (Zd ?_)
       rcases Zt h with ⟨qC,h⟩ | ⟨qC,h⟩
       ·refine E_ct qC rfl ?_
        refine Za (Zn (.int .i64 (r8)) rfl rfl ?_)
        refine EL_p (fPtr p1 0) (Zc at_134_0 g8 (PT.ptr t5)) rfl ?_
        have sG:=Zm (part_LoomLoomMill_0).1 t5
        refine EL_p (fPtr (fPtr p1 0) 1) (Zc at_30_1 rfl (PT.ptr sG)) rfl ?_
        have zI:=Zm (part_LoomMill_1).1 sG
        refine Ze .plain rfl (D_load (g:=iE) Tryz.isAgg3 Tryz.sizeOf3 rfl zI fun qK eJ=>?_)
        obtain rfl:=Zj.1 eJ
        refine EL_in (.int .i64 ((w64 (r8 + ((x0).LoomMill).Change)))) rfl rfl rfl rfl ?_
        refine Zg (.int .i64 ((w64 (r8 + ((x0).LoomMill).Change)))) rfl rfl ?_
        refine Zb ?_
        obtain rfl:=sinj h
        exact hQ _ _ ⟨iE,hfr,u9,i6,y9,tD,uD,v8,g8,t5,l9,dB,rfl,lB,mB⟩
       ·refine E_cf qC rfl ?_
        refine Zu ?_
        obtain rfl:=sinj h
        exact hQ _ _ ⟨iE,hfr,u9,i6,y9,tD,uD,v8,g8,t5,l9,dB,rfl,lB,mB⟩
      ·clear hx
       obtain ⟨xG,hfr,yG,z9,vD,xD,yD,x8,zD,a9,zE,cF,dF,eF,rF⟩:=hR
       refine Za (Zo cF rfl ?_)
       refine Ze .plain rfl (D_load (g:=xG) Tryz.isAgg134 Tryz.sizeOf134 zD a9 fun gJ iJ=>?_)
       refine Zo vD rfl ?_
       refine Zo xD rfl ?_
       refine Zo dF rfl ?_
       refine Zo yD rfl ?_
       obtain ⟨tB,bI,h⟩:=bsome h
       refine Ze .plain rfl (Zp (g:=xG) (vs:=[gJ,.int .i64 (x3),.int .i64 (x4),.int .i64 (k8),up5]) en155 (.cons rfl (.cons rfl (.cons rfl (.cons rfl (.cons rfl .nil))))) (wk155 iJ x8.r bI) fun jJ rJ sK hs hr=>?_)
       have hfr:=hfr.ext hs
       have z9:=z9.ext hs
       have x8:=x8.ext hs
       have a9:=a9.ext hs
       subst hr
       refine EL_p (.int .i64 (min64 u3 tB)) (P_min rfl rfl) rfl ?_
       refine Zg (.int .i64 (min64 u3 tB)) rfl rfl ?_
       refine Zb (blk_n ?_)
       obtain rfl:=sinj h
       exact hQ _ _ ⟨jJ,hfr,yG,z9,vD,xD,yD,x8,zD,a9,zE,rfl,eF,rF⟩
    ·clear hx
     obtain ⟨kJ,hfr,zG,aH,cH,dH,gH,iH,jH,kH,sF,tF,uF,vF⟩:=hR
     refine Za (EL_in (.int .i64 ((w64 (o0 + (1:Int))))) vF rfl rfl rfl ?_)
     refine Zn (.int .i64 ((w64 (o0 + (1:Int))))) rfl rfl ?_
     exact Zb (Zd (sH (l8,(w64 (o0 + (1:Int)))) _ _ ⟨kJ,hfr,zG,aH,cH,dH,gH,iH,jH,kH,sF,tF,uF,rfl⟩ h))
   ·refine E_cf cC rfl ?_
    refine E_exit ?_
    refine thn_e ?_
    refine thn_e ?_
    refine blk_hit ?_
    obtain rfl:=sinj h
    exact hQ _ _ ⟨zB,hfr,d9⟩
  ·clear hx
   obtain ⟨tK,hfr,xF⟩:=hR
   refine Zf (Za (Zo xF rfl ?_))
   refine Zg (.int .i64 (y6)) rfl rfl ?_
   refine Zb (Zd (E_ret ?_))
   obtain rfl:=sinj h
   exact end1 rfl rfl (show _=.int .i64 (y6) from rfl) ⟨_,hfr,rfl⟩
def f142 (x0:PayRate) (x1:Int):Option (Int):=
 (f66 ((x0).From) x1).bind fun y5=>
 some (y5)
theorem en142:Enters Tryz.prog 142:=enters_of Tryz.func142 (by kernel_rfl) rfl
theorem wk142 {gI:Gh} {wI:World} {x0:PayRate} {x1:Int} {up0:Value} (rp0:RV gI.m wI x0 up0) {r:Int} (h:f142 x0 x1=some r):Fn Tryz.prog 142 #[up0,.int .i64 (x1)] gI wI (fun _ _ v=>v=.int .i64 (r)):=by
 unfold f142 at h
 refine fn_of_E Tryz.func142 rfl (Nat.le_of_ble_eq_true rfl) fun g0 hm hfr=>?_
 have rp0:RV g0.m wI x0 up0:=hm ▸ rp0
 show E _ 9 none _ _ _ _ _
 refine Zf (Za (Ze .plain rfl (D_box (g:=g0) rfl rp0 fun g1 w1 p1 hs q1=>?_)))
 have hfr:=hfr.ext hs
 refine Zg (.int .i64 (0)) rfl rfl ?_
 refine Zb (Zd (Zf (Za (EL_p (fPtr p1 0) (Zc at_148_0 rfl (PT.ptr q1)) rfl ?_))))
 have q2:=Zm (part_PayRate_0).1 q1
 refine Ze .plain rfl (D_load (g:=g1) Tryz.isAgg3 Tryz.sizeOf3 rfl q2 fun v3 r3=>?_)
 obtain rfl:=Zj.1 r3
 refine Zn (.int .i64 (x1)) rfl rfl ?_
 obtain ⟨y5,hy5,h⟩:=bsome h
 refine Ze .plain rfl (Zp (g:=g1) (vs:=[.int .i64 ((x0).From),.int .i64 (x1)]) en66 (.cons rfl (.cons rfl .nil)) (wk66  hy5) fun g4 w4_ v4 hs hr=>?_)
 have hfr:=hfr.ext hs
 subst hr
 refine Zg (.int .i64 (y5)) rfl rfl ?_
 refine Zb (Zd (E_ret ?_))
 obtain rfl:=sinj h
 exact end1 rfl rfl (show _=.int .i64 (y5) from rfl) ⟨_,hfr,rfl⟩
def f156 (x0:List Int):Option (Bool):=
 jn (σ:=Unit) (fun _=>
  some (true)
  ) fun k53=>
 lp (σ:=Int) (fun k54 o0=>
  jn (σ:=Unit) (fun _=>
   jn (σ:=Unit) (fun _=>
    k54 ((w64 (o0 - (1:Int))))
    ) fun v8=>
   (idx x0 o0).bind fun y84=>
   (idx x0 (w64 (o0 - (1:Int)))).bind fun x6=>
   (f164 y84 x6).bind fun y6=>
   bif y6 then
    some (false)
   else
    v8 ()
   ) fun k57=>
  bif (decide (o0 > (0 : Int))) then
   k57 ()
  else
   k53 ()
  ) big ((w64 (((x0).length:Int) - (1:Int))))
theorem en156:Enters Tryz.prog 156:=enters_of Tryz.func156 (by kernel_rfl) rfl
theorem wk156 {gI:Gh} {wI:World} {x0:List Int} {up0:Value} (rp0:RV gI.m wI x0 up0) {r:Bool} (h:f156 x0=some r):Fn Tryz.prog 156 #[up0] gI wI (fun _ _ v=>v=.bool (r)):=by
 unfold f156 at h
 refine fn_of_E Tryz.func156 rfl (Nat.le_of_ble_eq_true rfl) fun g0 hm hfr=>?_
 have rp0:RV g0.m wI x0 up0:=hm ▸ rp0
 show E _ 21 none _ _ _ _ _
 refine Zf (Za (Zg (.bool false) rfl rfl ?_))
 refine Zb (Zd (Zq h (fun (s:Unit) e w=>∃ (g:Gh) ,Fr gI wI g w) (fun X53 k53 a9 h=>?_) ?_))
 ·refine Zf (Za (Zn up0 rfl rfl ?_))
  refine EL_p (.int .i64 ((x0).length:Int)) (P_len Tryz.underlying28 rfl rp0) rfl ?_
  refine EL_in (.int .i64 ((w64 (((x0).length:Int) - (1:Int))))) rfl rfl rfl rfl ?_
  refine Zg (.int .i64 ((w64 (((x0).length:Int) - (1:Int))))) rfl rfl ?_
  refine Zb (Zd (Zr ?_))
  refine E_lp h (fun (s:Int) e w=>∃ (g:Gh) ,Fr gI wI g w∧e 0=up0∧RV g.m w (x0:List Int) up0∧e 3=.int .i64 (s)) ⟨g0,hfr,rfl,rp0,rfl⟩ (fun X54 k54 d9=>?_)
  rintro o0 mB yB ⟨x8,hfr,n8,r8,i7⟩ h
  refine Zq h (fun (s:Unit) e w=>∃ (g:Gh) ,Fr gI wI g w∧e 0=up0∧RV g.m w (x0:List Int) up0∧e 3=.int .i64 (o0)) (fun X57 k57 k9 h=>?_) ?_
  ·refine Zf (Za (Zo i7 rfl ?_))
   refine EL_in (.bool ((decide (o0 > (0:Int))))) rfl rfl rfl rfl ?_
   refine Zb (Zd ?_)
   rcases Zt h with ⟨i6,h⟩ | ⟨i6,h⟩
   ·refine E_ct i6 rfl ?_
    exact Zu (Zd (k9 () _ _ ⟨x8,hfr,n8,r8,i7⟩ h))
   ·refine E_cf i6 rfl ?_
    refine E_exit ?_
    refine thn_e ?_
    refine thn_e ?_
    refine blk_hit ?_
    exact Zd (a9 () _ _ ⟨x8,hfr⟩ h)
  ·rintro _ nB zB ⟨bA, hfr, l5, u3, t5⟩ h
   refine Zq h (fun (s:Unit) e w=>∃ (g:Gh) ,Fr gI wI g w∧e 0=up0∧RV g.m w (x0:List Int) up0∧e 3=.int .i64 (o0)) (fun X83 v8 l9 h=>?_) ?_
   ·refine Zr ?_
    refine Zf ?_
    obtain ⟨y84,m7,h⟩:=bsome h
    have iA:=PT_idx u3 m7
    refine Zs (x:=.tmp 13) Tryz.isAgg3 Tryz.sizeOf3 iA fun cC rA n9=>?_
    obtain rfl:=Zj.1 rA
    obtain ⟨x6,g8,h⟩:=bsome h
    have yA:=PT_idx u3 g8
    refine Zs (x:=.tmp 18) Tryz.isAgg3 Tryz.sizeOf3 yA fun mC aB u9=>?_
    obtain rfl:=Zj.1 aB
    obtain ⟨y6,y9,h⟩:=bsome h
    refine E_drawL (g:=bA) (n:=10) [(9,(fun v g w=>v=.bool (y6)))] [0,1,2,3,4,5,6,7,8,9] rfl mixed (by kernel_rfl) (⟨fun _=>up_eq _,trivial⟩) ?_
    refine L_p up0 rfl rfl (Zk l5) ?_
    refine L_p (.int .i64 (o0)) rfl rfl (Zk t5) ?_
    refine L_p (ePtr up0 o0 1) rfl rfl (Zh (α:=Int) Tryz.underlying28 Tryz.sizeOf3 rfl u3 rfl m7) ?_
    refine L_ld (c:=.int .i64 (y84)) rfl rfl .plain (fun _ _ h=>h.ch) n9 rfl ?_
    refine L_p up0 rfl rfl (Zk l5) ?_
    refine L_p (.int .i64 (o0)) rfl rfl (Zk t5) ?_
    refine L_p (.int .i64 ((w64 (o0 - (1:Int))))) rfl rfl (P_int rfl rfl rfl) ?_
    refine L_p (ePtr up0 (w64 (o0 - (1:Int))) 1) rfl rfl (Zh (α:=Int) Tryz.underlying28 Tryz.sizeOf3 rfl u3 rfl g8) ?_
    refine L_ld (c:=.int .i64 (x6)) rfl rfl .plain (fun _ _ h=>h.ch) u9 rfl ?_
    refine L_do (φ:=fun v g w=>v=.bool (y6)) rfl rfl .plain (fun g w hd=>Zp (g:=g) (vs:=[.int .i64 (y84),.int .i64 (x6)]) en164 (.cons rfl (.cons rfl .nil)) (wk164  y9) fun g' w' v hs hr=>⟨g',hs,hr⟩) (fun qC hv=>?_)
    obtain ⟨_,_,_,rfl⟩:=hv
    refine L_nl fun dB rC hs=>?_
    have hfr:=hfr.ext hs
    have u3:=u3.ext hs
    clear hs
    refine Zb (Zd ?_)
    rcases Zt h with ⟨x5,h⟩ | ⟨x5,h⟩
    ·refine E_ct x5 rfl ?_
     refine Zf (Za (Zg (.bool false) rfl rfl ?_))
     refine Zb (Zd (E_ret (blk_r ?_)))
     refine thn_r ?_
     refine thn_r ?_
     refine blk_r ?_
     refine thn_r ?_
     obtain rfl:=sinj h
     exact end1 rfl rfl (show _=.bool false from rfl) ⟨_,hfr,rfl⟩
    ·refine E_cf x5 rfl ?_
     exact Zu (blk_n (Zd (l9 () _ _ ⟨dB,hfr,l5,u3,t5⟩ h)))
   ·rintro _ iB oB ⟨z9, hfr, k8, l8, m8⟩ h
    refine Za (Zo m8 rfl ?_)
    refine EL_in (.int .i64 ((w64 (o0 - (1:Int))))) rfl rfl rfl rfl ?_
    refine Zg (.int .i64 ((w64 (o0 - (1:Int))))) rfl rfl ?_
    exact Zb (Zd (d9 ((w64 (o0 - (1:Int)))) _ _ ⟨z9,hfr,k8,l8,rfl⟩ h))
 ·rintro _ lB tB ⟨vB, hfr⟩ h
  refine Zf (Za (Zg (.bool true) rfl rfl ?_))
  refine Zb (Zd (E_ret ?_))
  obtain rfl:=sinj h
  exact end1 rfl rfl (show _=.bool true from rfl) ⟨_,hfr,rfl⟩
def f169 (x0:List Int) (x1:Int) (x2:Int) (x3:Int) (x4:Int→Int→Option Int):Option ((List Int)):=
 Option.bind (α:=(List Int) × Int) (
  lp (σ:=(List Int) × Int × Int) (fun l9 (x6,o0,u3)=>
   jn (σ:=Unit) (fun _=>
    bif (decide (o0 > u3)) then
     (f177 x6 ((w64 (x2 - o0))) x2 u3 x4).bind fun n9=>
     l9 (n9,(w64 (o0 - u3)),u3)
    else
     (f177 x6 ((w64 (x2 - o0))) ((w64 ((w64 (x2 + u3)) - o0))) o0 x4).bind fun u9=>
     l9 (u9,o0,(w64 (u3 - o0)))
    ) fun yA=>
   bif (o0 != u3) then
    yA ()
   else
    some (x6,o0)
   ) big (x0,(w64 (x2 - x1)),(w64 (x3 - x2)))
  ) fun (g8,t5)=>
 (f177 g8 ((w64 (x2 - t5))) x2 t5 x4).bind fun aB=>
 some (aB)
theorem en169:Enters Tryz.prog 169:=enters_of Tryz.func169 (by kernel_rfl) rfl
theorem wk169 {iI:Nat} {gI:Gh} {wI:World} {x0:List Int} {x1:Int} {x2:Int} {x3:Int} {x4:Int→Int→Option Int} {up0:Value} (mp0:OM iI gI wI 3 x0 up0) {up4:Value} (rp4:FnV2 Tryz.prog x4 up4 gI wI) {r:(List Int)} (h:f169 x0 x1 x2 x3 x4=some r):FnM Tryz.prog 169 #[up0,.int .i64 (x1),.int .i64 (x2),.int .i64 (x3),up4] iI gI wI (fun g w v=>v=.tuple #[]∧OM iI g w 3 r up0):=by
 unfold f169 at h
 refine fnM_of_E Tryz.func169 rfl (Nat.le_of_ble_eq_true rfl) fun g0 hm hfr=>?_
 have z9:=mp0
 replace mp0:=mp0.enter
 rw [← hm] at mp0
 replace hm:g0.m=gI.m:=by rw [hm]
 obtain ⟨ff4,fa4,fc4,rfl,fen4,fcl4⟩:=rp4
 show E _ 58 none _ _ _ _ _
 refine Zf (Za (Zn (.int .i64 (x2)) rfl rfl ?_))
 refine Zn (.int .i64 (x1)) rfl rfl ?_
 refine EL_in (.int .i64 ((w64 (x2 - x1)))) rfl rfl rfl rfl ?_
 refine Zg (.int .i64 ((w64 (x2 - x1)))) rfl rfl ?_
 refine Zb (Zd (Zf (Za (Zn (.int .i64 (x3)) rfl rfl ?_))))
 refine Zn (.int .i64 (x2)) rfl rfl ?_
 refine EL_in (.int .i64 ((w64 (x3 - x2)))) rfl rfl rfl rfl ?_
 refine Zg (.int .i64 ((w64 (x3 - x2)))) rfl rfl ?_
 refine Zb (Zd ?_)
 obtain ⟨⟨g8,t5⟩,hx,h⟩:=bsome h
 refine E_join (fun e w=>∃ (g:Gh) ,FrM iI gI wI g w∧e 0=up0∧OM 1 g w 3 (g8:List Int) up0∧e 2=.int .i64 (x2)∧e 4=(.func (.func ff4) fa4 fc4)∧e 10=.int .i64 (t5)) (fun Q' hQ=>?_) (fun yB uC hR=>?_)
 ·replace h := hx
  clear hx
  refine Zr ?_
  refine E_lp h (fun (s:(List Int) × Int × Int) e w=>∃ (g:Gh) ,FrM iI gI wI g w∧e 0=up0∧OM 1 g w 3 (s.1:List Int) up0∧e 2=.int .i64 (x2)∧e 4=(.func (.func ff4) fa4 fc4)∧e 10=.int .i64 (s.2.1)∧e 11=.int .i64 (s.2.2)) ⟨g0,hfr,rfl,mp0,rfl,rfl,rfl,rfl⟩ (fun X12 l9 y9=>?_)
  rintro ⟨x6,o0,u3⟩ zB vC ⟨dB,hfr,r8,v8,x8,a9,m7,k8⟩ h
  refine Zq h (fun (s:Unit) e w=>∃ (g:Gh) ,FrM iI gI wI g w∧e 0=up0∧OM 1 g w 3 (x6:List Int) up0∧e 2=.int .i64 (x2)∧e 4=(.func (.func ff4) fa4 fc4)∧e 10=.int .i64 (o0)∧e 11=.int .i64 (u3)) (fun X15 yA lB h=>?_) ?_
  ·refine Zf (Za (Zo m7 rfl ?_))
   refine Zo k8 rfl ?_
   refine EL_in (.bool ((o0 != u3))) rfl rfl rfl rfl ?_
   refine Zb (Zd ?_)
   rcases Zt h with ⟨m8,h⟩ | ⟨m8,h⟩
   ·refine E_ct m8 rfl ?_
    exact Zu (Zd (lB () _ _ ⟨dB,hfr,r8,v8,x8,a9,m7,k8⟩ h))
   ·refine E_cf m8 rfl ?_
    refine E_exit ?_
    refine thn_e ?_
    refine thn_e ?_
    refine blk_hit ?_
    obtain ⟨rfl,rfl⟩:=pairs2 h
    exact hQ _ _ ⟨dB,hfr,r8,v8,x8,a9,m7⟩
  ·rintro _ cC aD ⟨iB, hfr, y6, d9, i6, i7, l5, x5⟩ h
   refine Zr ?_
   refine Zf (Za (Zo l5 rfl ?_))
   refine Zo x5 rfl ?_
   refine EL_in (.bool ((decide (o0 > u3)))) rfl rfl rfl rfl ?_
   refine Zb (Zd ?_)
   rcases Zt h with ⟨n8,h⟩ | ⟨n8,h⟩
   ·refine E_ct n8 rfl ?_
    refine Zf (Za (Zo y6 rfl ?_))
    refine Zo i6 rfl ?_
    refine Zo l5 rfl ?_
    refine EL_in (.int .i64 ((w64 (x2 - o0)))) rfl rfl rfl rfl ?_
    refine Zo i6 rfl ?_
    refine Zo x5 rfl ?_
    refine Zo i7 rfl ?_
    obtain ⟨n9,hy20,h⟩:=bsome h
    refine Ze .plain rfl (D_callM (g:=iB) (i:=1) (vs:=[up0,.int .i64 ((w64 (x2 - o0))),.int .i64 (x2),.int .i64 (u3),(.func (.func ff4) fa4 fc4)]) en177 (.cons rfl (.cons rfl (.cons rfl (.cons rfl (.cons rfl .nil))))) (wk177 d9 (FnV2.ch ⟨_,_,_,rfl,fen4,fcl4⟩ hfr.ch) hy20) fun oB mC bD hs hr=>?_)
    obtain ⟨hrv,b19⟩:=hr
    have hfr:=hfr.stp hs
    subst hrv
    refine Zb (Zd (Za (Zo l5 rfl ?_)))
    refine Zo x5 rfl ?_
    refine EL_in (.int .i64 ((w64 (o0 - u3)))) rfl rfl rfl rfl ?_
    refine Zg (.int .i64 ((w64 (o0 - u3)))) rfl rfl ?_
    exact Zb (blk_n (Zd (y9 (n9,(w64 (o0 - u3)),u3) _ _ ⟨oB,hfr,y6,b19,i6,i7,rfl,x5⟩ h)))
   ·refine E_cf n8 rfl ?_
    refine Zf (Za (Zo y6 rfl ?_))
    refine Zo i6 rfl ?_
    refine Zo l5 rfl ?_
    refine EL_in (.int .i64 ((w64 (x2 - o0)))) rfl rfl rfl rfl ?_
    refine Zo i6 rfl ?_
    refine Zo x5 rfl ?_
    refine EL_in (.int .i64 ((w64 (x2 + u3)))) rfl rfl rfl rfl ?_
    refine Zo l5 rfl ?_
    refine EL_in (.int .i64 ((w64 ((w64 (x2 + u3)) - o0)))) rfl rfl rfl rfl ?_
    refine Zo l5 rfl ?_
    refine Zo i7 rfl ?_
    obtain ⟨u9,mB,h⟩:=bsome h
    refine Ze .plain rfl (D_callM (g:=iB) (i:=1) (vs:=[up0,.int .i64 ((w64 (x2 - o0))),.int .i64 ((w64 ((w64 (x2 + u3)) - o0))),.int .i64 (o0),(.func (.func ff4) fa4 fc4)]) en177 (.cons rfl (.cons rfl (.cons rfl (.cons rfl (.cons rfl .nil))))) (wk177 d9 (FnV2.ch ⟨_,_,_,rfl,fen4,fcl4⟩ hfr.ch) mB) fun tB qC cD hs hr=>?_)
    obtain ⟨hrv,b21⟩:=hr
    have hfr:=hfr.stp hs
    subst hrv
    refine Zb (Zd (Za (Zo x5 rfl ?_)))
    refine Zo l5 rfl ?_
    refine EL_in (.int .i64 ((w64 (u3 - o0)))) rfl rfl rfl rfl ?_
    refine Zg (.int .i64 ((w64 (u3 - o0)))) rfl rfl ?_
    exact Zb (blk_n (Zd (y9 (u9,o0,(w64 (u3 - o0))) _ _ ⟨tB,hfr,y6,b21,i6,i7,l5,rfl⟩ h)))
 ·clear hx
  obtain ⟨vB,hfr,bA,iA,k9,rA,l8⟩:=hR
  refine Za (Zo bA rfl ?_)
  refine Zo k9 rfl ?_
  refine Zo l8 rfl ?_
  refine EL_in (.int .i64 ((w64 (x2 - t5)))) rfl rfl rfl rfl ?_
  refine Zo k9 rfl ?_
  refine Zo l8 rfl ?_
  refine Zo rA rfl ?_
  obtain ⟨aB,nB,h⟩:=bsome h
  refine Ze .plain rfl (D_callM (g:=vB) (i:=1) (vs:=[up0,.int .i64 ((w64 (x2 - t5))),.int .i64 (x2),.int .i64 (t5),(.func (.func ff4) fa4 fc4)]) en177 (.cons rfl (.cons rfl (.cons rfl (.cons rfl (.cons rfl .nil))))) (wk177 iA (FnV2.ch ⟨_,_,_,rfl,fen4,fcl4⟩ hfr.ch) nB) fun eD rC gD hs hr=>?_)
  obtain ⟨hrv,b24⟩:=hr
  have hfr:=hfr.stp hs
  subst hrv
  refine Zb ?_
  obtain rfl:=sinj h
  exact end0n rfl rfl ⟨_,hfr,rfl,z9.back b24⟩
end Go.Proofs.YtlmibfohllgmeaaGreat
