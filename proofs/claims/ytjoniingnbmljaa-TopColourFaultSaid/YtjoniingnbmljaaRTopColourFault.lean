/- TopColourFault: for every input the law returns true, and each argument reads behind the call as it read before. No condition. -/
import Derived.Test.YtjoniingnbmljaaLawCB
import Derived.Test.YtjoniingnbmljaaRow
import Derived.Test.YtjoniingnbmljaaRows
set_option maxRecDepth 100000
namespace Go.Proofs.Ytjoniingnbmljaa
open Go.ChangeShapes Go.WideShapes Go.ChangeAt Go.RowKit

def ok5 (_:UInt8):Prop:=True
theorem op5:Opens Try.prog 5 UInt8 ok5:=by
 have h:=opens_u8 Try.underlying5 (show Try.prog.cellsOf 5=1 from by kernel_rfl)
 exact h
def ok22 (x:List UInt8):Prop:=x.length ≤ 9223372036854775807∧∀ y ∈ x,ok5 y
theorem op22:Opens Try.prog 22 (List UInt8) ok22:=by
 have h:=opens_slice op5 Try.underlying22 (show Try.prog.cellsOf 22=1 from by kernel_rfl) (by decide)
 exact h
def ok232 (_:UInt16):Prop:=True
theorem op232:Opens Try.prog 232 UInt16 ok232:=by
 have h:=opens_u16 Try.underlying232 (show Try.prog.cellsOf 232=1 from by kernel_rfl)
 exact h
def ok23 (x:List UInt16):Prop:=x.length ≤ 9223372036854775807∧∀ y ∈ x,ok232 y
theorem op23:Opens Try.prog 23 (List UInt16) ok23:=by
 have h:=opens_slice op232 Try.underlying23 (show Try.prog.cellsOf 23=1 from by kernel_rfl) (by decide)
 exact h
def ok25 (x:Loom):Prop:=ok5 x.Hooks∧ok22 x.Warps∧ok23 x.Rows∧ok22 x.Cards
theorem op25:Opens Try.prog 25 Loom ok25:=by
 have h:=opens_struct (β:=UInt8 × (List UInt8) × (List UInt16) × (List UInt8)) (fun x:Loom=>(x.Hooks,x.Warps,x.Rows,x.Cards)) rfl rfl (fun _ _ _ _ h=>h) (fun b=>⟨⟨b.1,b.2.1,b.2.2.1,b.2.2.2⟩,rfl⟩) Try.underlying25 (show Try.prog.cellsOf 25=4 from by kernel_rfl) (opensF_cons (off:=0) (off':=1) rfl rfl op5 (opensF_cons (off:=1) (off':=2) rfl rfl op22 (opensF_cons (off:=2) (off':=3) rfl rfl op23 (opensF_one (off:=3) rfl op22))))
 exact h

theorem topColourFaultOwn:ownKnob Try.prog.godebug=none:=by kernel_rfl
theorem topColourFaultLaid:laidOutB Try.prog=true:=by kernel_rfl
theorem topColourFaultReads:∀ t ∈ Try.f3.params.toList,Try.prog.readableRec t=true∧t < Try.prog.types.size:=by
 rw [Try.params3]
 intro t ht
 simp only [List.mem_cons,List.not_mem_nil,or_false] at ht
 rcases ht with rfl | rfl
 all_goals exact ⟨by kernel_rfl,of_decide_eq_true (by kernel_rfl)⟩
theorem topColourFaultLifted (os : Os) (started : os.Started) (H : Type) (enc : TypeId × Value → H) :
  ReturnsInHanded {} Try.checked os 3 .any (Rows.topColourFaultSpec.pre6 enc Try.prog Try.f3 Rows.topColourFaultRow.domain false) (Rows.topColourFaultSpec.post enc Try.prog Try.f3 false true false false):=by
 refine returnsInHanded_of_change (C := Try.checked) topColourFaultOwn started (by kernel_rfl) Try.func3
  (ChangeSpec.witness6 (enc:=enc) (C:=Try.checked) false ⟨#[],#[.agg #[.int .u8 0,.slice none 0 0,.slice none 0 0,.slice none 0 0],.int .u8 0],[]⟩ 12 (by kernel_rfl) (by kernel_rfl) (by kernel_rfl) (by kernel_rfl)) ?_
 intro W base args ds gs before hval0 hW hcnd _
 have hval:∀ (j:Nat) t v,Try.f3.params[j]?=some t→args[j]?=some v→Value.okWide Try.prog W .any base t v:=hval0
 have hW':=hW
 obtain ⟨p,q,hA0,hV,rfl,hfz,hnd⟩:=hW
 have hA:DataW.TrodAll enc Try.prog W 0 (fun _=>true) true Try.f3.params.toList args.toList ds p:=hA0
 rw [Try.params3] at hA hval
 obtain ⟨v0,vs0,d0,ds0,p0,q0,hargs,rfl,rfl,h0,r0⟩:=trodAll_cons hA
 obtain ⟨v1,vs1,d1,ds1,p1,q1,rfl,rfl,rfl,h1,r1⟩:=trodAll_cons r0
 obtain ⟨rfl,rfl,rfl⟩:=trodAll_nil r1
 obtain rfl:args=#[v0,v1]:=by cases args; simp_all
 obtain ⟨rfl,rfl⟩:=trodVars_none hV
 obtain ⟨a0,w0,k0⟩:=opened op25 (hval 0 25 v0 rfl rfl) h0
 obtain ⟨a1,w1,k1⟩:=opened op5 (hval 1 5 v1 rfl rfl) h1
 obtain rfl:=RV_u8.1 w1
 clear hA0 hval0 hA hval
 refine Calls.mono (says_of (P:=Try.prog) (f:=3) (x:=f3 a0 a1) (s3 a0 a1) fun r hr=>(wk3 w0 hr).mono fun m w' v hv=>RV_bool.2 hv) ?_
 intro e W' ⟨he,hb⟩
 exact ⟨_,he,law_post (tb:=4) hW' topColourFaultLaid topColourFaultReads rfl rfl Try.underlying4 ⟨rfl,rfl,rfl⟩ hb⟩

theorem topColourFaultOver:Rows.topColourFaultRow.holds Try.pinned (OpenSpec.ofChange Rows.topColourFaultSpec):=
 OpenClaim.holds_of_wide 3 Try.f3 rfl rfl rfl rfl rfl rfl rfl ⟨rfl, rfl, rfl, rfl, rfl⟩ rfl rfl rfl rfl rfl (by kernel_rfl) Try.func3 (by kernel_rfl)
  (of_decide_eq_true (by kernel_rfl)) (by unfold Func.isWrapper; first | (rw [if_pos (by decide +kernel)]; kernel_rfl) | (rw [if_neg (by decide +kernel)]; exact ⟨rfl,rfl⟩))
  (fun os started H enc _=>topColourFaultLifted os started H enc)
theorem topColourFault_holds:Rows.TopColourFaultSaid:=topColourFaultOver
#print axioms topColourFault_holds
end Go.Proofs.Ytjoniingnbmljaa
