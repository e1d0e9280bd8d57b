/- TopBoxDays: for every input the law returns true, and each argument reads behind the call as it read before. No condition. -/
import Derived.Test.YtlmibfohllgmeaaGreatLawTC
import Derived.Test.YtlmibfohllgmeaaGreatRow
import Derived.Test.YtlmibfohllgmeaaGreatRows
set_option maxRecDepth 100000
namespace Go.Proofs.YtlmibfohllgmeaaGreat
open Go.ChangeShapes Go.WideShapes Go.ChangeAt Go.RowKit

def ok5 (_:UInt8):Prop:=True
theorem op5:Ur Tryz.prog 5 UInt8 ok5:=by
 have h:=opens_u8 Tryz.underlying5 (show Tryz.prog.cellsOf 5=1 from by kernel_rfl)
 exact h
def ok22 (x:Vector UInt8 2):Prop:=∀ i (h:i < 2),ok5 x[i]
theorem op22:Ur Tryz.prog 22 (Vector UInt8 2) ok22:=by
 have h:=Xd op5 Tryz.underlying22 (show Tryz.prog.cellsOf 22=2 from by kernel_rfl)
 exact h
def ok23 (x:Vector (Vector UInt8 2) 3):Prop:=∀ i (h:i < 3),ok22 x[i]
theorem op23:Ur Tryz.prog 23 (Vector (Vector UInt8 2) 3) ok23:=by
 have h:=Xd op22 Tryz.underlying23 (show Tryz.prog.cellsOf 23=6 from by kernel_rfl)
 exact h
def ok25 (x:Ya):Prop:=ok22 x.Boxes∧ok23 x.Shuttles
theorem op25:Ur Tryz.prog 25 Ya ok25:=by
 have h:=Ik (β:=(Vector UInt8 2) × (Vector (Vector UInt8 2) 3)) (fun x:Ya=>(x.Boxes,x.Shuttles)) rfl rfl (fun _ _ _ _ h=>h) (fun b=>⟨⟨b.1,b.2⟩,rfl⟩) Tryz.underlying25 (show Tryz.prog.cellsOf 25=8 from by kernel_rfl) (opensF_cons (off:=0) (off':=2) rfl rfl op22 (opensF_one (off:=2) rfl op23))
 exact h
def ok36 (x:Vector UInt8 6):Prop:=∀ i (h:i < 6),ok5 x[i]
theorem op36:Ur Tryz.prog 36 (Vector UInt8 6) ok36:=by
 have h:=Xd op5 Tryz.underlying36 (show Tryz.prog.cellsOf 36=6 from by kernel_rfl)
 exact h
def ok26 (x:List (Vector UInt8 6)):Prop:=x.length ≤ 9223372036854775807∧∀ y ∈ x,ok36 y
theorem op26:Ur Tryz.prog 26 (List (Vector UInt8 6)) ok26:=by
 have h:=Lh op36 Tryz.underlying26 (show Tryz.prog.cellsOf 26=1 from by kernel_rfl) (by decide)
 exact h
def ok78 (x:Vector UInt8 3):Prop:=∀ i (h:i < 3),ok5 x[i]
theorem op78:Ur Tryz.prog 78 (Vector UInt8 3) ok78:=by
 have h:=Xd op5 Tryz.underlying78 (show Tryz.prog.cellsOf 78=3 from by kernel_rfl)
 exact h
def ok27 (x:List (Vector UInt8 3)):Prop:=x.length ≤ 9223372036854775807∧∀ y ∈ x,ok78 y
theorem op27:Ur Tryz.prog 27 (List (Vector UInt8 3)) ok27:=by
 have h:=Lh op78 Tryz.underlying27 (show Tryz.prog.cellsOf 27=1 from by kernel_rfl) (by decide)
 exact h

theorem Mj:ownKnob Tryz.prog.godebug=none:=by kernel_rfl
theorem Mg:laidOutB Tryz.prog=true:=by kernel_rfl
theorem Lm:∀ t ∈ Tryz.f3.params.toList,Tryz.prog.readableRec t=true∧t < Tryz.prog.types.size:=by
 rw [Tryz.params3]
 intro t ht
 simp only [List.mem_cons,List.not_mem_nil,or_false] at ht
 rcases ht with rfl | rfl | rfl
 all_goals exact ⟨by kernel_rfl,of_decide_eq_true (by kernel_rfl)⟩
theorem Ft (os : Os) (started : os.Started) (H : Type) (enc : TypeId × Value → H) :
  ReturnsInHanded {} Tryz.checked os 3 .any (Rows.topBoxDaysSpec.pre6 enc Tryz.prog Tryz.f3 Rows.topBoxDaysRow.domain false) (Rows.topBoxDaysSpec.post enc Tryz.prog Tryz.f3 false true false false):=by
 refine returnsInHanded_of_change (C := Tryz.checked) Mj started (by kernel_rfl) Tryz.func3
  (ChangeSpec.witness6 (enc:=enc) (C:=Tryz.checked) false ⟨#[],#[.agg #[.int .u8 0,.int .u8 0,.int .u8 0,.int .u8 0,.int .u8 0,.int .u8 0,.int .u8 0,.int .u8 0],.slice none 0 0,.slice none 0 0],[]⟩ 12 (by kernel_rfl) (by kernel_rfl) (by kernel_rfl) (by kernel_rfl)) ?_
 intro W base args ds gs before hval0 hW hcnd _
 have hval:∀ (j:Nat) t v,Tryz.f3.params[j]?=some t→args[j]?=some v→Value.okWide Tryz.prog W .any base t v:=hval0
 have hW':=hW
 obtain ⟨p,q,hA0,hV,rfl,hfz,hnd⟩:=hW
 have hA:DataW.TrodAll enc Tryz.prog W 0 (fun _=>true) true Tryz.f3.params.toList args.toList ds p:=hA0
 rw [Tryz.params3] at hA hval
 obtain ⟨v0,vs0,d0,ds0,p0,q0,hargs,rfl,rfl,h0,r0⟩:=trodAll_cons hA
 obtain ⟨v1,vs1,d1,ds1,p1,q1,rfl,rfl,rfl,h1,r1⟩:=trodAll_cons r0
 obtain ⟨v2,vs2,d2,ds2,p2,q2,rfl,rfl,rfl,h2,r2⟩:=trodAll_cons r1
 obtain ⟨rfl,rfl,rfl⟩:=trodAll_nil r2
 obtain rfl:args=#[v0,v1,v2]:=by cases args; simp_all
 obtain ⟨rfl,rfl⟩:=trodVars_none hV
 obtain ⟨a0,w0,k0⟩:=opened op25 (hval 0 25 v0 rfl rfl) h0
 obtain ⟨a1,w1,k1⟩:=opened op26 (hval 1 26 v1 rfl rfl) h1
 obtain ⟨a2,w2,k2⟩:=opened op27 (hval 2 27 v2 rfl rfl) h2
 clear hA0 hval0 hA hval
 refine Calls.mono (says_of (P:=Tryz.prog) (f:=3) (x:=f3 a0 a1 a2) (s3 a0 a1 a2) fun r hr=>(wk3 w0 w1 w2 hr).mono fun m w' v hv=>Qw.2 hv) ?_
 intro e W' ⟨he,hb⟩
 exact ⟨_,he,law_post (tb:=4) hW' Mg Lm rfl rfl Tryz.underlying4 ⟨rfl,rfl,rfl⟩ hb⟩

theorem Px:Rows.topBoxDaysRow.holds Tryz.pinned (OpenSpec.ofChange Rows.topBoxDaysSpec):=
 OpenClaim.holds_of_wide 3 Tryz.f3 rfl rfl rfl rfl rfl rfl rfl ⟨rfl, rfl, rfl, rfl, rfl⟩ rfl rfl rfl rfl rfl (by kernel_rfl) Tryz.func3 (by kernel_rfl)
  (of_decide_eq_true (by kernel_rfl)) (by unfold Func.isWrapper; first | (rw [if_pos (by decide +kernel)]; kernel_rfl) | (rw [if_neg (by decide +kernel)]; exact ⟨rfl,rfl⟩))
  (fun os started H enc _=>Ft os started H enc)
theorem topBoxDays_holds:Rows.TopBoxDaysSaid:=Px
#print axioms topBoxDays_holds
end Go.Proofs.YtlmibfohllgmeaaGreat
