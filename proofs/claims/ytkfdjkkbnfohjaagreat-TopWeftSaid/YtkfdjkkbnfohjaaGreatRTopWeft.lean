/- TopWeft: for every input the law returns true, and each argument reads behind the call as it read before. No condition. -/
import Derived.Test.YtkfdjkkbnfohjaaGreatLawWC
import Derived.Test.YtkfdjkkbnfohjaaGreatRow
import Derived.Test.YtkfdjkkbnfohjaaGreatRows
set_option maxRecDepth 100000
namespace Go.Proofs.YtkfdjkkbnfohjaaGreat
open Go.ChangeShapes Go.WideShapes Go.ChangeAt Go.RowKit

def ok5 (_:UInt8):Prop:=True
theorem op5:Opens Tryz.prog 5 UInt8 ok5:=by
 have h:=opens_u8 Tryz.underlying5 (show Tryz.prog.cellsOf 5=1 from by kernel_rfl)
 exact h
def ok68 (_:UInt16):Prop:=True
theorem op68:Opens Tryz.prog 68 UInt16 ok68:=by
 have h:=opens_u16 Tryz.underlying68 (show Tryz.prog.cellsOf 68=1 from by kernel_rfl)
 exact h
def ok22 (x:List UInt16):Prop:=x.length ≤ 9223372036854775807∧∀ y ∈ x,ok68 y
theorem op22:Opens Tryz.prog 22 (List UInt16) ok22:=by
 have h:=opens_slice op68 Tryz.underlying22 (show Tryz.prog.cellsOf 22=1 from by kernel_rfl) (by decide)
 exact h
def ok23 (x:Vector UInt8 2):Prop:=∀ i (h:i < 2),ok5 x[i]
theorem op23:Opens Tryz.prog 23 (Vector UInt8 2) ok23:=by
 have h:=opens_array op5 Tryz.underlying23 (show Tryz.prog.cellsOf 23=2 from by kernel_rfl)
 exact h
def ok24 (x:Vector (Vector UInt8 2) 3):Prop:=∀ i (h:i < 3),ok23 x[i]
theorem op24:Opens Tryz.prog 24 (Vector (Vector UInt8 2) 3) ok24:=by
 have h:=opens_array op23 Tryz.underlying24 (show Tryz.prog.cellsOf 24=6 from by kernel_rfl)
 exact h
def ok26 (x:Race):Prop:=ok23 x.Boxes∧ok24 x.Shuttles
theorem op26:Opens Tryz.prog 26 Race ok26:=by
 have h:=opens_struct (β:=(Vector UInt8 2) × (Vector (Vector UInt8 2) 3)) (fun x:Race=>(x.Boxes,x.Shuttles)) rfl rfl (fun _ _ _ _ h=>h) (fun b=>⟨⟨b.1,b.2⟩,rfl⟩) Tryz.underlying26 (show Tryz.prog.cellsOf 26=8 from by kernel_rfl) (opensF_cons (off:=0) (off':=2) rfl rfl op23 (opensF_one (off:=2) rfl op24))
 exact h

theorem topWeftOwn:ownKnob Tryz.prog.godebug=none:=by kernel_rfl
theorem topWeftLaid:laidOutB Tryz.prog=true:=by kernel_rfl
theorem topWeftReads:∀ t ∈ Tryz.f3.params.toList,Tryz.prog.readableRec t=true∧t < Tryz.prog.types.size:=by
 rw [Tryz.params3]
 intro t ht
 simp only [List.mem_cons,List.not_mem_nil,or_false] at ht
 rcases ht with rfl | rfl | rfl
 all_goals exact ⟨by kernel_rfl,of_decide_eq_true (by kernel_rfl)⟩
theorem topWeftLifted (os : Os) (started : os.Started) (H : Type) (enc : TypeId × Value → H) :
  ReturnsInHanded {} Tryz.checked os 3 .any (Rows.topWeftSpec.pre6 enc Tryz.prog Tryz.f3 Rows.topWeftRow.domain false) (Rows.topWeftSpec.post enc Tryz.prog Tryz.f3 false true false false):=by
 refine returnsInHanded_of_change (C := Tryz.checked) topWeftOwn started (by kernel_rfl) Tryz.func3
  (ChangeSpec.witness6 (enc:=enc) (C:=Tryz.checked) false ⟨#[],#[.int .u8 0,.slice none 0 0,.agg #[.int .u8 0,.int .u8 0,.int .u8 0,.int .u8 0,.int .u8 0,.int .u8 0,.int .u8 0,.int .u8 0]],[]⟩ 12 (by kernel_rfl) (by kernel_rfl) (by kernel_rfl) (by kernel_rfl)) ?_
 intro W base args ds gs before hval0 hW hcnd _
 have hval:∀ (j:Nat) t v,Tryz.f3.params[j]?=some t→args[j]?=some v→Value.okWide Tryz.prog W .any base t v:=hval0
 have hW':=hW
 obtain ⟨p,q,hA0,hV,rfl,hfz,hnd⟩:=hW
 have hA:DataW.TrodAll enc Tryz.prog W 0 (fun _=>true) true Tryz.f3.params.toList args.toList ds p:=hA0
 rw [Tryz.params3] at hA hval
 obtain ⟨v0,vs0,d0,ds0,p0,q0,hargs,rfl,rfl,h0,r0⟩:=trodAll_cons hA
 obtain ⟨v1,vs1,d1,ds1,p1,q1,rfl,rfl,rfl,h1,r1⟩:=trodAll_cons r0
 obtain ⟨v2,vs2,d2,ds2,p2,q2,rfl,rfl,rfl,h2,r2⟩:=trodAll_cons r1
 obtain ⟨rfl,rfl,rfl⟩:=trodAll_nil r2
 obtain rfl:args=#[v0,v1,v2]:=by cases args; simp_all
 obtain ⟨rfl,rfl⟩:=trodVars_none hV
 obtain ⟨a0,w0,k0⟩:=opened op5 (hval 0 5 v0 rfl rfl) h0
 obtain ⟨a1,w1,k1⟩:=opened op22 (hval 1 22 v1 rfl rfl) h1
 obtain ⟨a2,w2,k2⟩:=opened op26 (hval 2 26 v2 rfl rfl) h2
 obtain rfl:=RV_u8.1 w0
 clear hA0 hval0 hA hval
 refine Calls.mono (says_of (P:=Tryz.prog) (f:=3) (x:=f3 a0 a1 a2) (s3 a0 a1 a2 k0 k1 k2) fun r hr=>(wk3 w1 w2 hr).mono fun m w' v hv=>RV_bool.2 hv) ?_
 intro e W' ⟨he,hb⟩
 exact ⟨_,he,law_post (tb:=4) hW' topWeftLaid topWeftReads rfl rfl Tryz.underlying4 ⟨rfl,rfl,rfl⟩ hb⟩

theorem topWeftOver:Rows.topWeftRow.holds Tryz.pinned (OpenSpec.ofChange Rows.topWeftSpec):=
 OpenClaim.holds_of_wide 3 Tryz.f3 rfl rfl rfl rfl rfl rfl rfl ⟨rfl, rfl, rfl, rfl, rfl⟩ rfl rfl rfl rfl rfl (by kernel_rfl) Tryz.func3 (by kernel_rfl)
  (of_decide_eq_true (by kernel_rfl)) (by unfold Func.isWrapper; first | (rw [if_pos (by decide +kernel)]; kernel_rfl) | (rw [if_neg (by decide +kernel)]; exact ⟨rfl,rfl⟩))
  (fun os started H enc _=>topWeftLifted os started H enc)
theorem topWeft_holds:Rows.TopWeftSaid:=topWeftOver
#print axioms topWeft_holds
end Go.Proofs.YtkfdjkkbnfohjaaGreat
