/- TopRibbonFault: for every input the law returns true, and each argument reads behind the call as it read before. No condition. -/
import Derived.Test.YtepehlhgkipcoaaGreatDoorRfD1
import Derived.Test.YtepehlhgkipcoaaGreatDoorRow
import Derived.Test.YtepehlhgkipcoaaGreatDoorCards
import Derived.Test.YtepehlhgkipcoaaGreatDoorTie
import Derived.Lay
import Derived.SevenTiedAt
set_option maxRecDepth 100000
namespace Go.Proofs.YtepehlhgkipcoaaGreatDoor
open Go.ChangeShapes Go.WideShapes Go.ChangeAt Go.RowKit

def ok5 (_:UInt8):Prop:=True
theorem op5:Vt Tryz.prog 5 UInt8 ok5:=by
 have h:=Ns Tryz.underlying5 (show Tryz.prog.cellsOf 5=1 from by kernel_rfl)
 exact h
def ok103 (_:UInt16):Prop:=True
theorem op103:Vt Tryz.prog 103 UInt16 ok103:=by
 have h:=Mu Tryz.underlying103 (show Tryz.prog.cellsOf 103=1 from by kernel_rfl)
 exact h
def ok22 (x:List UInt16):Prop:=x.length ≤ 9223372036854775807∧∀ y ∈ x,ok103 y
theorem op22:Vt Tryz.prog 22 (List UInt16) ok22:=by
 have h:=F3 op103 Tryz.underlying22 (show Tryz.prog.cellsOf 22=1 from by kernel_rfl) (by decide)
 exact h
def ok23 (x:Vector UInt8 3):Prop:=∀ i (h:i < 3),ok5 x[i]
theorem op23:Vt Tryz.prog 23 (Vector UInt8 3) ok23:=by
 have h:=Lp op5 Tryz.underlying23 (show Tryz.prog.cellsOf 23=3 from by kernel_rfl)
 exact h

theorem Db:ownKnob Tryz.prog.godebug=none:=by kernel_rfl
theorem Xh:laidOutB Tryz.prog=true:=by kernel_rfl
theorem V5:∀ t ∈ Tryz.f3.params.toList,Tryz.prog.readableRec t=true∧t < Tryz.prog.types.size:=by
 rw [Tryz.params3]
 intro t ht
 simp only [List.mem_cons,List.not_mem_nil,or_false] at ht
 rcases ht with rfl | rfl | rfl
 all_goals exact ⟨by kernel_rfl,of_decide_eq_true (by kernel_rfl)⟩
theorem Iq {P:Program} {f:FuncId} {vs:Array Value} {w:World} {x:Option Bool} (hx:x=some true) (h:∀ r,x=some r→Fn P f vs ⟨fun b=>Bx w b + 1,fun _=>0⟩ w (fun m w' v=>RV m w' r v)):Says P f vs w:=by
 refine Calls.mono (h true hx) ?_
 rintro e w' ⟨v,rfl,g',hx,hr⟩
 rw [Qm] at hr
 subst hr
 exact ⟨rfl,hx.below⟩
theorem ch1 (w:World):Ch (Bx w) w (fun b=>Bx w b + 1) w:=⟨Nat.le_refl _,fun _ _=>Nat.le_succ _,fun _ _ _ _=>rfl⟩
theorem tab_of {W:World} (h:laidMetH Tryz.prog Rows.topRibbonFaultRow.laid W):Vb 0 (fun b=>Bx W b + 1) W:=by
  rw [MakeChecks.laidMetH_plain _ _ _ (by kernel_rfl)] at h
  obtain ⟨ps,hr0,_,_⟩:=h
  obtain ⟨_,_,_,_,_,q0,_,_,_,_,hr1,_⟩:=hr0
  obtain ⟨_,_,_,_,_,q1,_,_,_,_,hrest,_⟩:=hr1
  obtain ⟨g,t,cs,fuel,p,q,hg,ht,hv,hd,_,_⟩:=hrest
  obtain rfl := Option.some.inj ((show Tryz.prog.globalNamed "internal/strconv.uint64pow10" = some 0 by kernel_rfl).symm.trans hg)
  obtain rfl:=Option.some.inj ((show (Tryz.prog.globals[0]?).map (·.type)=some 245 by kernel_rfl).symm.trans ht)
  obtain ⟨xs,m,_,ex,hcl,hl,hel⟩:=DataW.trod_array Tryz.underlying245 hd
  have c5:Tryz.prog.cellsOf 211=1:=by kernel_rfl
  have c20:Tryz.prog.cellsOf 245=20:=by kernel_rfl
  have hlen:Lib.pow10Tab.length=20:=by kernel_rfl
  have e3:(xs.map (·.1))=Lib.pow10Tab.map fun n=>(DataW.lit (.int .u64 n):DataW Unit):=(DataW.agg.inj (Prod.mk.inj ex).1).symm
  have cell:∀ r,r < 20→W.cell? ⟨0,r,none⟩=some (.int .u64 (Lib.pow10Tab.getD r 0)):=fun r hr=>by
    have hE:=hel r hr
    rw [c5,Nat.mul_one,List.getElem?_eq_getElem (by omega)] at hE
    obtain ⟨z,e1,e2,_⟩:=DataW.trod_int Tryz.underlying211 hE
    have e4:(xs.map (·.1))[r]?=(Lib.pow10Tab.map fun n=>(DataW.lit (.int .u64 n):DataW Unit))[r]?:=by rw [e3]
    rw [List.getElem?_map,List.getElem?_map,List.getElem?_eq_getElem (by omega:r < xs.length),List.getElem?_eq_getElem (by omega:r < Lib.pow10Tab.length),e2] at e4
    have hz:z=Lib.pow10Tab.getD r 0:=by
      simp only [Option.map_some,Option.some.injEq,DataW.lit.injEq,Lit.int.injEq,true_and] at e4
      rw [e4,List.getD,List.getElem?_eq_getElem (by omega:r < Lib.pow10Tab.length)]; rfl
    rw [World.var?_cell hg hv r,← hz]
    have h0:((cs.toList.drop r).take 1)[0]?=some (.int .u64 z):=by rw [e1]; rfl
    have:cs.toList[r]?=some (.int .u64 z):=by simpa using h0
    simpa using this
  have hb:=Mg (cell 19 (by omega))
  refine ⟨hb.1,by show 21 ≤ Bx W 0 + 1; omega,cell,?_⟩
  rw [World.var?_cell hg hv 20]
  rw [c20] at hcl
  exact Array.getElem?_eq_none_iff.2 (by simp at hcl; omega)
theorem U7 (os : Os) (started : os.Started) (H : Type) (enc : TypeId × Value → H) :
  ReturnsInHanded {} Tryz.checked os 3 .any (fun w args => (Rows.topRibbonFaultSpec.pre enc Tryz.prog Tryz.f3 [] false w args ∧ laidMetH Tryz.prog Rows.topRibbonFaultRow.laid w) ∧ sizedMet enc Tryz.prog Tryz.f3 (OpenSpec.ofChange Rows.topRibbonFaultSpec) false w args)
   (Rows.topRibbonFaultSpec.post enc Tryz.prog Tryz.f3 false true false false):=by
 refine returnsInHanded_of_change_and (C := Tryz.checked) (X := fun w _ => laidMetH Tryz.prog Rows.topRibbonFaultRow.laid w) (fun _ _ _ hh h => h.of_heap hh) Db started (by kernel_rfl) Tryz.func3
  (ChangeSpec.witness_shaped (enc := enc) (C := Tryz.checked) (os := os) (X := fun w _ => laidMetH Tryz.prog Rows.topRibbonFaultRow.laid w) false (World.laidAll Tryz.prog os Rows.topRibbonFaultRow.laid) #[.int .u8 0, .slice none 0 0, .agg #[.int .u8 0, .int .u8 0, .int .u8 0]] 12 (World.laidAll_os _ _ _)
   (World.shaped_of_ZipB (by kernel_rfl) (by kernel_rfl)) (by kernel_rfl) (by kernel_rfl) (by kernel_rfl)
   (by rw [MakeChecks.laidMetH_plain _ _ _ (by kernel_rfl)]; exact laidMet_laidAll _ (by kernel_rfl) (by kernel_rfl))) ?_
 intro W base args ds gs before hval0 hW _ _ hL _
 have hT:=tab_of hL
 have hval:∀ (j:Nat) t v,Tryz.f3.params[j]?=some t→args[j]?=some v→Value.okWide Tryz.prog W .any base t v:=hval0
 have hW':=hW
 obtain ⟨p,q,hA0,hV,rfl,hfz,hnd⟩:=hW
 have hA:DataW.TrodAll enc Tryz.prog W 0 (fun _=>true) true Tryz.f3.params.toList args.toList ds p:=hA0
 rw [Tryz.params3] at hA hval
 obtain ⟨v0,vs0,d0,ds0,p0,q0,hargs,rfl,rfl,h0,r0⟩:=trodAll_cons hA
 obtain ⟨v1,vs1,d1,ds1,p1,q1,rfl,rfl,rfl,h1,r1⟩:=trodAll_cons r0
 obtain ⟨v2,vs2,d2,ds2,p2,q2,rfl,rfl,rfl,h2,r2⟩:=trodAll_cons r1
 obtain ⟨rfl,rfl,rfl⟩:=trodAll_nil r2
 obtain rfl:args=#[v0,v1,v2]:=by cases args; simp_all
 obtain ⟨rfl,rfl⟩:=trodVars_none hV
 obtain ⟨a0,w0,k0⟩:=Al op5 (hval 0 5 v0 rfl rfl) h0
 obtain ⟨a1,w1,k1⟩:=Al op22 (hval 1 22 v1 rfl rfl) h1
 obtain ⟨a2,w2,k2⟩:=Al op23 (hval 2 23 v2 rfl rfl) h2
 obtain rfl:=Qz.1 w0
 clear hA0 hval0 hA hval
 refine Calls.mono (Iq (P:=Tryz.prog) (f:=3) (x:=f3 a0 a1 a2) (s3f a0 a1 a2 k0 k1 k2) fun r hr=>(wk3 hT (w1.ch (ch1 W)) (w2.ch (ch1 W)) hr).mono fun m w' v hv=>Qm.2 hv) ?_
 intro e W' ⟨he,hb⟩
 exact ⟨_,he,Og (tb:=4) hW' Xh V5 rfl rfl Tryz.underlying4 ⟨rfl,rfl,rfl⟩ hb⟩

theorem Xg:Rows.topRibbonFaultRow.holds Tryz.pinned (OpenSpec.ofChange Rows.topRibbonFaultSpec):=
 OpenClaim.holds_of_wide 3 Tryz.f3 rfl rfl rfl rfl rfl rfl rfl ⟨rfl, rfl, rfl, rfl, rfl⟩ rfl rfl rfl rfl rfl (by kernel_rfl) Tryz.func3 (by kernel_rfl)
  (of_decide_eq_true (by kernel_rfl)) (by unfold Func.isWrapper; first | (rw [if_pos (by decide +kernel)]; kernel_rfl) | (rw [if_neg (by decide +kernel)]; exact ⟨rfl,rfl⟩))
  (fun os started H enc _=>U7 os started H enc)
theorem topRibbonFaultCard_holds:Rows.TopRibbonFaultCardSaid:=
  Claim7.holds_tied_plain_at .later [] [.data, .data, .data] true (true, "a497a466dcdc42fa4913be027f4b785fda303e7ec32b3976c671cffa8dfb911a") true Xg (fun _ h => by cases h) (by kernel_rfl) (fun _ h => by cases h) topRibbonFault_row_tie rfl ⟨rfl, rfl⟩ (by kernel_rfl) rfl
    (fun f fn hf hfn=>by
      obtain rfl : f = 3 := Option.some.inj ((show Tryz.prog.funcNamed "griffe/griffetop.TopRibbonFault" = some 3 by kernel_rfl).symm.trans hf) |>.symm
      obtain rfl:fn=Tryz.f3:=(Option.some.inj (Tryz.func3.symm.trans hfn)).symm
      exact ⟨by kernel_rfl,fun j t ht=>by
        rw [Tryz.params3] at ht
        have hm:t ∈ [5,22,23]:=by simpa using Array.mem_of_getElem? ht
        have hall:([5,22,23].all fun u=>!Tryz.prog.wantsStandIn u)=true:=by kernel_rfl
        exact (show Tryz.prog.wantsStandIn t=false by simpa using List.all_eq_true.1 hall t hm)⟩)
    (by kernel_rfl)
#print axioms topRibbonFaultCard_holds
end Go.Proofs.YtepehlhgkipcoaaGreatDoor
