/- TopPaidDays: for every input the law returns true, and each argument reads behind the call as it read before. No condition. -/
import Derived.Test.YtlmibfohllgmeaaGreatLawQC
import Derived.Test.YtlmibfohllgmeaaGreatRow
import Derived.Test.YtlmibfohllgmeaaGreatRows
set_option maxRecDepth 100000
namespace Go.Proofs.YtlmibfohllgmeaaGreat
open Go.ChangeShapes Go.WideShapes Go.ChangeAt Go.RowKit

def ok5 (_:UInt8):Prop:=True
theorem op5:Opens Tryz.prog 5 UInt8 ok5:=by
 have h:=opens_u8 Tryz.underlying5 (show Tryz.prog.cellsOf 5=1 from by kernel_rfl)
 exact h
def ok78 (x:Vector UInt8 3):Prop:=∀ i (h:i < 3),ok5 x[i]
theorem op78:Opens Tryz.prog 78 (Vector UInt8 3) ok78:=by
 have h:=opens_array op5 Tryz.underlying78 (show Tryz.prog.cellsOf 78=3 from by kernel_rfl)
 exact h
def ok27 (x:List (Vector UInt8 3)):Prop:=x.length ≤ 9223372036854775807∧∀ y ∈ x,ok78 y
theorem op27:Opens Tryz.prog 27 (List (Vector UInt8 3)) ok27:=by
 have h:=opens_slice op78 Tryz.underlying27 (show Tryz.prog.cellsOf 27=1 from by kernel_rfl) (by decide)
 exact h
def ok55 (x:Vector UInt8 4):Prop:=∀ i (h:i < 4),ok5 x[i]
theorem op55:Opens Tryz.prog 55 (Vector UInt8 4) ok55:=by
 have h:=opens_array op5 Tryz.underlying55 (show Tryz.prog.cellsOf 55=4 from by kernel_rfl)
 exact h

theorem topPaidDaysOwn:ownKnob Tryz.prog.godebug=none:=by kernel_rfl
theorem topPaidDaysLaid:laidOutB Tryz.prog=true:=by kernel_rfl
theorem topPaidDaysReads:∀ t ∈ Tryz.f4.params.toList,Tryz.prog.readableRec t=true∧t < Tryz.prog.types.size:=by
 rw [Tryz.params4]
 intro t ht
 simp only [List.mem_cons,List.not_mem_nil,or_false] at ht
 rcases ht with rfl | rfl | rfl
 all_goals exact ⟨by kernel_rfl,of_decide_eq_true (by kernel_rfl)⟩
theorem topPaidDaysLifted (os : Os) (started : os.Started) (H : Type) (enc : TypeId × Value → H) :
  ReturnsInHanded {} Tryz.checked os 4 .any (Rows.topPaidDaysSpec.pre6 enc Tryz.prog Tryz.f4 Rows.topPaidDaysRow.domain false) (Rows.topPaidDaysSpec.post enc Tryz.prog Tryz.f4 false true false false):=by
 refine returnsInHanded_of_change (C := Tryz.checked) topPaidDaysOwn started (by kernel_rfl) Tryz.func4
  (ChangeSpec.witness6 (enc:=enc) (C:=Tryz.checked) false ⟨#[],#[.slice none 0 0,.int .u8 0,.agg #[.int .u8 0,.int .u8 0,.int .u8 0,.int .u8 0]],[]⟩ 12 (by kernel_rfl) (by kernel_rfl) (by kernel_rfl) (by kernel_rfl)) ?_
 intro W base args ds gs before hval0 hW hcnd _
 have hval:∀ (j:Nat) t v,Tryz.f4.params[j]?=some t→args[j]?=some v→Value.okWide Tryz.prog W .any base t v:=hval0
 have hW':=hW
 obtain ⟨p,q,hA0,hV,rfl,hfz,hnd⟩:=hW
 have hA:DataW.TrodAll enc Tryz.prog W 0 (fun _=>true) true Tryz.f4.params.toList args.toList ds p:=hA0
 rw [Tryz.params4] at hA hval
 obtain ⟨v0,vs0,d0,ds0,p0,q0,hargs,rfl,rfl,h0,r0⟩:=trodAll_cons hA
 obtain ⟨v1,vs1,d1,ds1,p1,q1,rfl,rfl,rfl,h1,r1⟩:=trodAll_cons r0
 obtain ⟨v2,vs2,d2,ds2,p2,q2,rfl,rfl,rfl,h2,r2⟩:=trodAll_cons r1
 obtain ⟨rfl,rfl,rfl⟩:=trodAll_nil r2
 obtain rfl:args=#[v0,v1,v2]:=by cases args; simp_all
 obtain ⟨rfl,rfl⟩:=trodVars_none hV
 obtain ⟨a0,w0,k0⟩:=opened op27 (hval 0 27 v0 rfl rfl) h0
 obtain ⟨a1,w1,k1⟩:=opened op5 (hval 1 5 v1 rfl rfl) h1
 obtain ⟨a2,w2,k2⟩:=opened op55 (hval 2 55 v2 rfl rfl) h2
 obtain rfl:=RV_u8.1 w1
 clear hA0 hval0 hA hval
 refine Calls.mono (says_of (P:=Tryz.prog) (f:=4) (x:=f4 a0 a1 a2) (s4 a0 a1 a2) fun r hr=>(wk4 w0 w2 hr).mono fun m w' v hv=>RV_bool.2 hv) ?_
 intro e W' ⟨he,hb⟩
 exact ⟨_,he,law_post (tb:=4) hW' topPaidDaysLaid topPaidDaysReads rfl rfl Tryz.underlying4 ⟨rfl,rfl,rfl⟩ hb⟩

theorem topPaidDaysOver:Rows.topPaidDaysRow.holds Tryz.pinned (OpenSpec.ofChange Rows.topPaidDaysSpec):=
 OpenClaim.holds_of_wide 4 Tryz.f4 rfl rfl rfl rfl rfl rfl rfl ⟨rfl, rfl, rfl, rfl, rfl⟩ rfl rfl rfl rfl rfl (by kernel_rfl) Tryz.func4 (by kernel_rfl)
  (of_decide_eq_true (by kernel_rfl)) (by unfold Func.isWrapper; first | (rw [if_pos (by decide +kernel)]; kernel_rfl) | (rw [if_neg (by decide +kernel)]; exact ⟨rfl,rfl⟩))
  (fun os started H enc _=>topPaidDaysLifted os started H enc)
theorem topPaidDays_holds:Rows.TopPaidDaysSaid:=topPaidDaysOver
#print axioms topPaidDays_holds
end Go.Proofs.YtlmibfohllgmeaaGreat
