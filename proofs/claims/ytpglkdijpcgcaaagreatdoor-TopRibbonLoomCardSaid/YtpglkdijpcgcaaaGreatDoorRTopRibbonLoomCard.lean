/- TopRibbonLoom: for every input the law returns true, and each argument reads behind the call as it read before. No condition. -/
import Derived.Test.YtpglkdijpcgcaaaGreatDoorRlH1
import Derived.Test.YtpglkdijpcgcaaaGreatDoorRow
import Derived.Test.YtpglkdijpcgcaaaGreatDoorCards
import Derived.Test.YtpglkdijpcgcaaaGreatDoorTie
import Derived.Lay
import Derived.SevenTiedAt
set_option maxRecDepth 100000
namespace Go.Proofs.YtpglkdijpcgcaaaGreatDoor
open Go.ChangeShapes Go.WideShapes Go.ChangeAt Go.RowKit

def ok131 (_:UInt16):Prop:=True
theorem op131:Un Tryz.prog 131 UInt16 ok131:=by
 have h:=I4 Tryz.underlying131 (show Tryz.prog.cellsOf 131=1 from by kernel_rfl)
 exact h
def ok22 (x:List UInt16):Prop:=x.length≤9223372036854775807∧∀ y∈x,ok131 y
theorem op22:Un Tryz.prog 22 (List UInt16) ok22:=by
 have h:=Sf op131 Tryz.underlying22 (show Tryz.prog.cellsOf 22=1 from by kernel_rfl) (by decide)
 exact h
def ok5 (_:UInt8):Prop:=True
theorem op5:Un Tryz.prog 5 UInt8 ok5:=by
 have h:=opens_u8 Tryz.underlying5 (show Tryz.prog.cellsOf 5=1 from by kernel_rfl)
 exact h
def ok77 (x:Vector UInt8 3):Prop:=∀ i (h:i<3),ok5 x[i]
theorem op77:Un Tryz.prog 77 (Vector UInt8 3) ok77:=by
 have h:=Sk op5 Tryz.underlying77 (show Tryz.prog.cellsOf 77=3 from by kernel_rfl)
 exact h
def ok23 (x:List (Vector UInt8 3)):Prop:=x.length≤9223372036854775807∧∀ y∈x,ok77 y
theorem op23:Un Tryz.prog 23 (List (Vector UInt8 3)) ok23:=by
 have h:=Sf op77 Tryz.underlying23 (show Tryz.prog.cellsOf 23=1 from by kernel_rfl) (by decide)
 exact h
def ok24 (x:Vector UInt8 2):Prop:=∀ i (h:i<2),ok5 x[i]
theorem op24:Un Tryz.prog 24 (Vector UInt8 2) ok24:=by
 have h:=Sk op5 Tryz.underlying24 (show Tryz.prog.cellsOf 24=2 from by kernel_rfl)
 exact h

theorem Bs:ownKnob Tryz.prog.godebug=none:=by kernel_rfl
theorem Bf:laidOutB Tryz.prog=true:=by kernel_rfl
theorem Da:∀ t∈Tryz.f3.params.toList,Tryz.prog.readableRec t=true∧t<Tryz.prog.types.size:=by
 rw [Tryz.params3]
 intro t ht
 simp only [List.mem_cons,List.not_mem_nil,or_false] at ht
 rcases ht with rfl | rfl | rfl
 all_goals exact ⟨by kernel_rfl,of_decide_eq_true (by kernel_rfl)⟩
theorem says_of1 {P:Program} {f:FuncId} {vs:Array Value} {w:World} {x:Option Bool} (hx:x=some true) (h:∀ r,x=some r→Fn P f vs ⟨fun b=>St w b+1,fun _=>0⟩ w (fun m w' v=>RV m w' r v)):Says P f vs w:=by
 refine Calls.mono (h true hx) ?_
 rintro e w' ⟨v,rfl,g',hx,hr⟩
 rw [Tz] at hr
 subst hr
 exact ⟨rfl,hx.below⟩
theorem ch1 (w:World):Ch (St w) w (fun b=>St w b+1) w:=⟨Nat.le_refl _,fun _ _=>Nat.le_succ _,fun _ _ _ _=>rfl⟩
theorem tab_of {W:World} (h:laidMetH Tryz.prog Rows.topRibbonLoomRow.laid W):Vc 0 (fun b=>St W b+1) W:=by
  rw [MakeChecks.laidMetH_plain _ _ _ (by kernel_rfl)] at h
  obtain ⟨ps,hr0,_,_⟩:=h
  obtain ⟨_,_,_,_,_,q0,_,_,_,_,hr1,_⟩:=hr0
  obtain ⟨_,_,_,_,_,q1,_,_,_,_,hrest,_⟩:=hr1
  obtain ⟨g,t,cs,fuel,p,q,hg,ht,hv,hd,_,_⟩:=hrest
  obtain rfl := Option.some.inj ((show Tryz.prog.globalNamed "internal/strconv.uint64pow10" = some 0 by kernel_rfl).symm.trans hg)
  obtain rfl:=Option.some.inj ((show (Tryz.prog.globals[0]?).map (·.type)=some 289 by kernel_rfl).symm.trans ht)
  obtain ⟨xs,m,_,ex,hcl,hl,hel⟩:=DataW.trod_array Tryz.underlying289 hd
  have c5:Tryz.prog.cellsOf 240=1:=by kernel_rfl
  have c20:Tryz.prog.cellsOf 289=20:=by kernel_rfl
  have hlen:Lib.pow10Tab.length=20:=by kernel_rfl
  have e3:(xs.map (·.1))=Lib.pow10Tab.map fun n=>(DataW.lit (.int .u64 n):DataW Unit):=(DataW.agg.inj (Prod.mk.inj ex).1).symm
  have cell:∀ r,r<20→W.cell? ⟨0,r,none⟩=some (.int .u64 (Lib.pow10Tab.getD r 0)):=fun r hr=>by
    have hE:=hel r hr
    rw [c5,Nat.mul_one,List.getElem?_eq_getElem (by omega)] at hE
    obtain ⟨z,e1,e2,_⟩:=DataW.trod_int Tryz.underlying240 hE
    have e4:(xs.map (·.1))[r]?=(Lib.pow10Tab.map fun n=>(DataW.lit (.int .u64 n):DataW Unit))[r]?:=by rw [e3]
    rw [List.getElem?_map,List.getElem?_map,List.getElem?_eq_getElem (by omega:r<xs.length),List.getElem?_eq_getElem (by omega:r<Lib.pow10Tab.length),e2] at e4
    have hz:z=Lib.pow10Tab.getD r 0:=by
      simp only [Option.map_some,Option.some.injEq,DataW.lit.injEq,Lit.int.injEq,true_and] at e4
      rw [e4,List.getD,List.getElem?_eq_getElem (by omega:r<Lib.pow10Tab.length)];rfl
    rw [World.var?_cell hg hv r,← hz]
    have h0:((cs.toList.drop r).take 1)[0]?=some (.int .u64 z):=by rw [e1];rfl
    have:cs.toList[r]?=some (.int .u64 z):=by simpa using h0
    simpa using this
  have hb:=Ox (cell 19 (by omega))
  refine ⟨hb.1,by show 21≤St W 0+1;omega,cell,?_⟩
  rw [World.var?_cell hg hv 20]
  rw [c20] at hcl
  exact Array.getElem?_eq_none_iff.2 (by simp at hcl;omega)
theorem Xp (os:Os) (started:os.Started) (H:Type) (enc:TypeId × Value→H) :
  ReturnsInHanded {} Tryz.checked os 3 .any (fun w args => (Rows.topRibbonLoomSpec.pre enc Tryz.prog Tryz.f3 [] false w args ∧ laidMetH Tryz.prog Rows.topRibbonLoomRow.laid w) ∧ sizedMet enc Tryz.prog Tryz.f3 (OpenSpec.ofChange Rows.topRibbonLoomSpec) false w args)
   (Rows.topRibbonLoomSpec.post enc Tryz.prog Tryz.f3 false true false false):=by
 refine returnsInHanded_of_change_and (C := Tryz.checked) (X := fun w _ => laidMetH Tryz.prog Rows.topRibbonLoomRow.laid w) (fun _ _ _ hh h => h.of_heap hh) Bs started (by kernel_rfl) Tryz.func3
  (ChangeSpec.witness_shaped (enc := enc) (C := Tryz.checked) (os := os) (X := fun w _ => laidMetH Tryz.prog Rows.topRibbonLoomRow.laid w) false (World.laidAll Tryz.prog os Rows.topRibbonLoomRow.laid) #[.slice none 0 0, .slice none 0 0, .agg #[.int .u8 0, .int .u8 0]] 12 (World.laidAll_os _ _ _)
   (World.shaped_of_ZipB (by kernel_rfl) (by kernel_rfl)) (by kernel_rfl) (by kernel_rfl) (by kernel_rfl)
   (by rw [MakeChecks.laidMetH_plain _ _ _ (by kernel_rfl)];exact laidMet_laidAll _ (by kernel_rfl) (by kernel_rfl))) ?_
 intro W base args ds gs before hval0 hW _ _ hL _
 have hT:=tab_of hL
 have hval:∀ (j:Nat) t v,Tryz.f3.params[j]?=some t→args[j]?=some v→Value.okWide Tryz.prog W .any base t v:=hval0
 have hW':=hW
 obtain ⟨p,q,hA0,hV,rfl,hfz,hnd⟩:=hW
 have hA:DataW.TrodAll enc Tryz.prog W 0 (fun _=>true) true Tryz.f3.params.toList args.toList ds p:=hA0
 rw [Tryz.params3] at hA hval
 obtain ⟨v0,vs0,d0,ds0,p0,q0,hargs,rfl,rfl,h0,r0⟩:=trodAll_cons hA
 obtain ⟨v1,vs1,d1,ds1,p1,q1,rfl,rfl,rfl,h1,r1⟩:=trodAll_cons r0
 obtain ⟨v2,vs2,d2,ds2,p2,q2,rfl,rfl,rfl,h2,r2⟩:=trodAll_cons r1
 obtain ⟨rfl,rfl,rfl⟩:=trodAll_nil r2
 obtain rfl:args=#[v0,v1,v2]:=by cases args;simp_all
 obtain ⟨rfl,rfl⟩:=trodVars_none hV
 obtain ⟨a0,w0,k0⟩:=Nb op22 (hval 0 22 v0 rfl rfl) h0
 obtain ⟨a1,w1,k1⟩:=Nb op23 (hval 1 23 v1 rfl rfl) h1
 obtain ⟨a2,w2,k2⟩:=Nb op24 (hval 2 24 v2 rfl rfl) h2
 clear hA0 hval0 hA hval
 refine Calls.mono (says_of1 (P:=Tryz.prog) (f:=3) (x:=f3 a0 a1 a2) (s3l a0 a1 a2 k0 k1 k2) fun r hr=>(wk3 hT (w0.ch (ch1 W)) (w1.ch (ch1 W)) (w2.ch (ch1 W)) hr).mono fun m w' v hv=>Tz.2 hv) ?_
 intro e W' ⟨he,hb⟩
 exact ⟨_,he,Ed (tb:=4) hW' Bf Da rfl rfl Tryz.underlying4 ⟨rfl,rfl,rfl⟩ hb⟩

theorem D4:Rows.topRibbonLoomRow.holds Tryz.pinned (OpenSpec.ofChange Rows.topRibbonLoomSpec):=
 OpenClaim.holds_of_wide 3 Tryz.f3 rfl rfl rfl rfl rfl rfl rfl ⟨rfl, rfl, rfl, rfl, rfl⟩ rfl rfl rfl rfl rfl (by kernel_rfl) Tryz.func3 (by kernel_rfl)
  (of_decide_eq_true (by kernel_rfl)) (by unfold Func.isWrapper;first | (rw [if_pos (by decide +kernel)];kernel_rfl) | (rw [if_neg (by decide +kernel)];exact ⟨rfl,rfl⟩))
  (fun os started H enc _=>Xp os started H enc)
theorem topRibbonLoomCard_holds:Rows.TopRibbonLoomCardSaid:=
  Claim7.holds_tied_plain_at .later [] [.data, .data, .data] true (true, "6e1c222a132cc5e9dddffdaf6905528889c54b976a6bad7cfbd4e08ee6e8f38e") true D4 (fun _ h => by cases h) (by kernel_rfl) (fun _ h => by cases h) topRibbonLoom_row_tie rfl ⟨rfl, rfl⟩ (by kernel_rfl) rfl
    (fun f fn hf hfn=>by
      obtain rfl : f = 3 := Option.some.inj ((show Tryz.prog.funcNamed "griffe/griffetop.TopRibbonLoom" = some 3 by kernel_rfl).symm.trans hf) |>.symm
      obtain rfl:fn=Tryz.f3:=(Option.some.inj (Tryz.func3.symm.trans hfn)).symm
      exact ⟨by kernel_rfl,fun j t ht=>by
        rw [Tryz.params3] at ht
        have hm:t∈[22,23,24]:=by simpa using Array.mem_of_getElem? ht
        have hall:([22,23,24].all fun u=>!Tryz.prog.wantsStandIn u)=true:=by kernel_rfl
        exact (show Tryz.prog.wantsStandIn t=false by simpa using List.all_eq_true.1 hall t hm)⟩)
    (by kernel_rfl)
#print axioms topRibbonLoomCard_holds
end Go.Proofs.YtpglkdijpcgcaaaGreatDoor
