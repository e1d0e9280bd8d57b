/- Laws of plain functions, part 1. -/
import Derived.Test.YtmebkoemfjlbcaaGreatDoorBkKn
import Derived.Test.YtmebkoemfjlbcaaGreatDoorYes
set_option maxRecDepth 8000
namespace Go.Proofs.YtmebkoemfjlbcaaGreatDoor
open Go.RowKit Go.Sort
open Classical
theorem qbindB {α β:Type} {Q:β→Prop} {x:Option α} {f:α→Option β} (a:α) (h:x=some a) (k:Yes (f a) Q):Yes (x.bind f) Q:=by rw [h]; exact k
def btwB (a b x:Int):Bool:=decide (a ≤ x∧x ≤ b)
theorem s103B (xs:List Int) (φ:Int→Option Bool) (p:Int→Bool) (hl:xs.length < 9223372036854775807) (h:∀ a ∈ xs,φ a=some (p a)):f138 xs φ=some (xs.any p):=
 Yes.eq (Yes.bind (Yes.mono (index_is xs φ p hl h) fun _ hr=>Yes.some (index_any hr)))
theorem b98B (x a b:Int):f139 x a b=some (!btwB a b x):=by unfold f139 btwB; by_cases h1:x < a <;> by_cases h2:x > b <;> simp [h1,h2] <;> omega
theorem b69B (a b:Int) (xs:List Int) (hl:xs.length < 9223372036854775807):f100 a b xs=some (xs.all (btwB a b)):=by
 unfold f100
 rw [s103B xs _ (fun x=>!btwB a b x) hl fun x _=>b98B x a b]
 simp [List.all_eq_not_any_not]
theorem s71_ltB {x y:Int} (h:x < y):f130 x y=some (-1):=by
 unfold f130 f159 jn
 simp [h,Int.not_lt.2 (Int.le_of_lt h)]
theorem s71_gtB {x y:Int} (h:y < x):f130 x y=some 1:=by
 unfold f130 f159 jn
 simp [h,Int.not_lt.2 (Int.le_of_lt h)]
theorem s71_eqB (x:Int):f130 x x=some 0:=by
 unfold f130 f159 jn
 simp
theorem s71_someB (x y:Int):∃ z,f130 x y=some z:=by
 rcases Int.lt_trichotomy x y with h | h | h
 ·exact ⟨_,s71_ltB h⟩
 ·exact ⟨0,by subst h; exact s71_eqB x⟩
 ·exact ⟨_,s71_gtB h⟩
theorem s70_mB (z:Int):f129 [-1,z]=some (-1):=by kernel_rfl
theorem s70_pB (z:Int):f129 [1,z]=some 1:=by kernel_rfl
theorem s34_ltB {a b:BookCloth} (h:a.Day < b.Day):f89 a b=some (-1):=by
 obtain ⟨z,hz⟩:=s71_someB a.Loom b.Loom
 refine Yes.eq ?_
 unfold f89
 exact qbindB _ (s71_ltB h) (qbindB _ hz (qbindB _ (s70_mB z) (Yes.some rfl)))
theorem s34_gtB {a b:BookCloth} (h:b.Day < a.Day):f89 a b=some 1:=by
 obtain ⟨z,hz⟩:=s71_someB a.Loom b.Loom
 refine Yes.eq ?_
 unfold f89
 exact qbindB _ (s71_gtB h) (qbindB _ hz (qbindB _ (s70_pB z) (Yes.some rfl)))
section
variable {α:Type} (key:α→Int)
variable {key}
theorem s70_0B {z:Int} (h:z=-1 ∨ z=0 ∨ z=1):f129 [0,z]=some z:=by
 rcases h with rfl | rfl | rfl <;> kernel_rfl
end
def ltC (a b:BookCloth):Prop:=a.Day < b.Day ∨ a.Day=b.Day∧a.Loom < b.Loom
theorem ord_all (a b:BookCloth):∃ z,f89 a b=some z∧(z < 0 ↔ ltC a b):=by
 unfold ltC
 rcases Int.lt_trichotomy a.Day b.Day with h | h | h
 ·exact ⟨_,s34_ltB h,by omega⟩
 ·have hz:∃ z,f130 a.Loom b.Loom=some z∧(z=-1 ∨ z=0 ∨ z=1)∧(z < 0 ↔ a.Loom < b.Loom):=by
   rcases Int.lt_trichotomy a.Loom b.Loom with g | g | g
   ·exact ⟨_,s71_ltB g,by omega,by omega⟩
   ·exact ⟨0,by rw [g]; exact s71_eqB _,by omega,by omega⟩
   ·exact ⟨_,s71_gtB g,by omega,by omega⟩
  obtain ⟨z,z1,z2,z3⟩:=hz
  refine ⟨z,?_,by omega⟩
  refine Yes.eq ?_
  unfold f89
  refine qbindB 0 (by rw [h]; exact s71_eqB _) (qbindB _ z1 (qbindB _ (s70_0B z2) (Yes.some rfl)))
 ·exact ⟨_,s34_gtB h,by omega⟩
theorem lt_is (a b:BookCloth):ltOf (fun a b=>(f89 a b).getD 0) a b=decide (ltC a b):=by
 obtain ⟨z,h1,h2⟩:=ord_all a b
 show decide ((f89 a b).getD 0 < 0)=_
 rw [h1,decide_eq_decide]
 exact h2
theorem swo_all : SWO (ltOf fun a b => (f89 a b).getD 0) where
 irrefl x:=by rw [lt_is,decide_eq_false_iff_not]; unfold ltC; omega
 trans x y z h1 h2:=by
  rw [lt_is,decide_eq_true_iff] at *
  unfold ltC at *; omega
 ntrans x y z h1 h2:=by
  rw [lt_is,decide_eq_false_iff_not] at *
  unfold ltC at *; omega
theorem s70r {zs:List BookCloth} (hl:zs.length ≤ 1000):∃ ys,f134 zs (fun a0 a1=>f89 a0 a1)=some ys∧ys.Perm zs∧ys.Pairwise fun a b=>¬ ltC b a:=by
 unfold f134 sortF
 rw [if_pos ⟨fun a b=>by obtain ⟨z,h,_⟩:=ord_all a b; show (f89 a b).isSome=true; rw [h]; rfl,swo_all,by omega⟩]
 have hp:=pdq_sorts (ltOf fun a b=>(f89 a b).getD 0) swo_all zs.toArray 0 zs.length (Lib.bitLen zs.length) true true (Nat.zero_le _) (by simp) (.inl rfl)
 refine ⟨_,rfl,?_⟩
 generalize pdq (ltOf fun a b=>(f89 a b).getD 0) zs.toArray 0 zs.length (Lib.bitLen zs.length) true true=d at hp
 obtain ⟨⟨h1,_,h3⟩,h4⟩:=hp
 have hs:d.size=zs.length:=by simpa using h1
 constructor
 ·have e1 : (d.extract 0 zs.length) = d := by rw [← hs]; simp
  have e2:(zs.toArray.extract 0 zs.length)=zs.toArray:=by simp
  rw [e1,e2] at h3
  simpa using h3
 ·refine List.pairwise_iff_getElem.2 fun i j hi hj hij => ?_
  have hi':i < d.size:=by simpa using hi
  have hj':j < d.size:=by simpa using hj
  have:=h4 i j (Nat.zero_le _) hij (by omega)
  rw [lt_is,decide_eq_false_iff_not,getElem!_pos d j hj',getElem!_pos d i hi'] at this
  simpa using this
end Go.Proofs.YtmebkoemfjlbcaaGreatDoor
/- known of chapter 13: put together. -/
set_option maxRecDepth 100000
set_option maxHeartbeats 4000000
namespace Go.Proofs.YtmebkoemfjlbcaaGreatDoor
open Go.RowKit Go.Sort
theorem sort2 {a b:BookCloth} {ys:List BookCloth} (hp:ys.Perm [b,a]) (hs:ys.Pairwise fun x y=>¬ ltC y x) (h:ltC a b):ys=[a,b]:=by
 have hl:=hp.length_eq
 match ys,hl with
 | [x,y],_=>
  have hxy:¬ ltC y x:=by simpa using hs
  have hx:x ∈ [b,a]:=hp.mem_iff.1 (by simp)
  have hb:b ∈ [x,y]:=hp.mem_iff.2 (by simp)
  have ha:a ∈ [x,y]:=hp.mem_iff.2 (by simp)
  have hab:a ≠ b:=fun e=>by subst e; unfold ltC at h; omega
  simp only [List.mem_cons,List.not_mem_nil,or_false] at hx hb ha
  rcases hx with rfl | rfl
  ·rcases ha with rfl | rfl
   ·exact absurd rfl hab
   ·exact absurd h hxy
  ·rcases hb with rfl | rfl
   ·exact absurd rfl hab
   ·rfl
theorem k134:f134 [(⟨5,0,0,0,2⟩:BookCloth),(⟨0,0,0,0,3⟩:BookCloth)] (fun a0 a1=>f89 a0 a1)=some [(⟨0,0,0,0,3⟩:BookCloth),(⟨5,0,0,0,2⟩:BookCloth)]:=by
 obtain ⟨ys,h1,h2,h3⟩:=s70r (zs:=[(⟨5,0,0,0,2⟩:BookCloth),(⟨0,0,0,0,3⟩:BookCloth)]) (by simp)
 rw [h1,sort2 h2 h3 (.inl (by decide))]

theorem k95a:f95 [[0,5,0,0,0,2,7,22],[0,0,0,0,0,3,3,18],[0,5,0,0,0,2,7,22]]=some ([(⟨0,0,0,0,3⟩:BookCloth),(⟨5,0,0,0,2⟩:BookCloth)],0,0):=by
 rw [g95_eq,congrFun k95a' f134,k134]; rfl
theorem k95b:f95 [[0,5,0,0,0,2,7,22],[0,0,0,0,0,3,3,18]]=some ([(⟨0,0,0,0,3⟩:BookCloth),(⟨5,0,0,0,2⟩:BookCloth)],0,0):=by
 rw [g95_eq,congrFun k95b' f134,k134]; rfl
theorem k42:f42 [[0,5,0,0,0,2,7,22],[0,0,0,0,0,3,3,18],[0,5,0,0,0,2,7,22]]=some ([0,0,0,0,0,3,3,18] ++ [0,5,0,0,0,2,7,22],0,0):=by
 unfold f42
 exact bindS k95a (bindS k31c rfl)
theorem k43:f43 (⟨[⟨⟨[112,108,97,105,110]⟩,⟨2,[0,1,0]⟩⟩],[⟨⟨[116,119,105,108,108]⟩,⟨2,[⟨0,1,false⟩,⟨-1,1,true⟩]⟩⟩]⟩:BookMill) [[0,5,0,0,0,2,7,22],[0,0,0,0,0,3,3,18]]=some ([[⟨[120,46,120]⟩,⟨[46,120,46]⟩,⟨[120,46,120]⟩,⟨[46,120,46]⟩,⟨[120,46,120]⟩]] ++ List.replicate 15 [],0,0):=by
 unfold f43
 refine bindS k67 (bindS k95b ?_)
 kernel_rfl
theorem known:f13=some true:=by
 unfold f13
 refine bindS k15 (bindS k19 (bindS k52 (bindS k23 (bindS k26 (bindS k31 (bindS k32 (bindS k37 (bindS k53a (bindS k31a (bindS k53b (bindS k31b (bindS k42 (bindS k52 (bindS k43 ?_))))))))))))))
 kernel_rfl
end Go.Proofs.YtmebkoemfjlbcaaGreatDoor
