/- Laws of plain functions, part 2. -/
import Derived.Test.YtpglkdijpcgcaaaGreatDoorRlB1
set_option maxRecDepth 8000
namespace Go.Proofs.YtpglkdijpcgcaaaGreatDoor
open Go.RowKit
open Classical
theorem s21mB (xs:List Int) (h:xs.length≤1000):f38 xs=some xs:=by
 refine Yes.eq ?_
 unfold f38
 exact Yes.bind (Yes.apnd (by simp;omega) (by simp;omega) (Yes.some rfl))
theorem s9mB {H:Nat} {l:Gc} (h:L6B H l):f14 l=some (Js l):=by
 obtain ⟨⟨h1,h2,h3⟩,k1,k2,k3⟩:=h
 refine Yes.eq ?_
 unfold f14
 refine Yes.bind (Yes.mono (Q':=fun b=>b=⟨l.Design.Hooks,Kh l.Design.Rows⟩) ?_ fun b hb=>?_)
 ·refine Yes.upto l.Design.Rows.length (by omega) (fun i b=>b=⟨l.Design.Hooks,Kh (l.Design.Rows.take i)⟩) rfl (fun i b k hi hI hk=>?_) (fun b k hI=>?_)
  ·subst hI
   refine Yes.jn (K4 (decide_eq_true (by omega)) (Yes.bind (Tc _ (Xv hi) (Yes.bind (Yes.apnd ?_ ?_ (Yes.some (hk _ ?_)))))))
   ·show ((Kh (l.Design.Rows.take i)).length+_)*24≤_
    rw [Jp,List.length_take];simp;omega
   ·show (Kh (l.Design.Rows.take i)).length+_≤_
    rw [Jp,List.length_take];simp;omega
   ·rw [Jw hi,M8,List.length_take,Nat.min_eq_left (by omega)]
  ·subst hI
   rw [List.take_length]
   exact Yes.jn (Qj (decide_eq_false (by omega)) (Yes.some rfl))
 ·subst hb
  refine Tc _ (s21mB _ (by omega)) (Yes.some ?_)
  rfl
theorem bok6B {H:Nat} {d:Design} (h:D6B H d):Oz H ⟨d.Hooks,Kh d.Rows⟩:=by
 obtain ⟨h1,h2,h3⟩:=h
 refine ⟨h1,by rw [Jp];exact h2,fun c hc=>?_⟩
 obtain ⟨i,hi,rfl⟩:=List.getElem_of_mem hc
 have hi':i<d.Rows.length:=by rw [← Jp];exact hi
 rw [R8 hi hi']
 have:=h3 d.Rows[i] (List.getElem_mem hi')
 exact ⟨⟨by simp,by show (i:Int)≤59;omega⟩,this.1,this.2⟩
theorem b45B (xs:List Gx) (φ:Gx→Option Bool) (p:Gx→Bool) (hl:xs.length<9223372036854775807) (h:∀ a∈xs,φ a=some (p a)):f67 xs φ=some (xs.any p):=by
 obtain ⟨r,hr,hq⟩:=Jz xs φ p hl h
 have hr:f100 xs φ=some r:=hr
 unfold f67;rw [hr];simp only [Option.bind_some];rw [Hu hq]
theorem b46B (xs:List Gm) (φ:Gm→Option Bool) (p:Gm→Bool) (hl:xs.length<9223372036854775807) (h:∀ a∈xs,φ a=some (p a)):f68 xs φ=some (xs.any p):=by
 obtain ⟨r,hr,hq⟩:=Jz xs φ p hl h
 have hr:f101 xs φ=some r:=hr
 unfold f68;rw [hr];simp only [Option.bind_some];rw [Hu hq]
theorem n40B (t:Gx):f62 [t] (fun a0=>f63 a0)=some [t.Name]:=by kernel_rfl
theorem n42B (t:Gm):f64 [t] (fun a0=>f65 a0)=some [t.Name]:=by kernel_rfl
theorem n44aB:f66 [⟨[108,105,108,121]⟩]=some true:=by kernel_rfl
theorem n44bB:f66 [⟨[114,111,115,101]⟩]=some true:=by kernel_rfl
theorem s18mB {H:Nat} (hH:1≤H∧H≤12) {l:Gc} (h:L6B H l):f35 (Js l)=some 0:=by
 have hb:=bok6B h.1
 have h37:f59 l.Harness=some 0:=c105zB hH h.2
 have h39:f61 ⟨l.Design.Hooks,Kh l.Design.Rows⟩=some 0:=by
  refine Yes.eq ?_
  unfold f61
  exact Tc _ (E9 hH hb) (Yes.some rfl)
 have h36:∀ a∈(Js l).Ties,f58 a=some false:=fun a ha=>by
  have ha:a=⟨⟨[108,105,108,121]⟩,l.Harness⟩:=by simpa [Js] using ha
  subst ha
  refine Yes.eq ?_
  unfold f58
  exact Tc _ h37 (Yes.some rfl)
 have h38:∀ a∈(Js l).Chains,f60 a=some false:=fun a ha=>by
  have ha:a=⟨⟨[114,111,115,101]⟩,⟨l.Design.Hooks,Kh l.Design.Rows⟩⟩:=by simpa [Js] using ha
  subst ha
  refine Yes.eq ?_
  unfold f60
  exact Tc _ h39 (Yes.some rfl)
 refine Yes.eq ?_
 unfold f35
 refine Yes.jn (Yes.bind (Qj rfl (Yes.some (Qj rfl ?_))))
 refine Tc _ (n40B _) (Tc _ (n42B _) (Yes.jn (Yes.bind ?_)))
 refine Tc _ n44aB (Qj rfl (Tc _ n44bB (Qj rfl ?_)))
 refine Tc _ (b45B _ _ (fun _=>false) (by show 1<_;omega) h36) (Qj rfl (Tc _ (b46B _ _ (fun _=>false) (by show 1<_;omega) h38) (Yes.some (Qj rfl (Yes.some rfl)))))
theorem Em:((List.range 16).all fun p=>p==0||f72 [1] (p:Int)==some (List.replicate p (1:Int)))=true:=by kernel_rfl
theorem s50rB {p:Int} (h:1≤p∧p≤15):f72 [1] p=some ((List.replicate p.toNat 1).map fun s:Nat=>(s:Int)):=by
 obtain ⟨n,rfl⟩:∃ n:Nat,p=n:=⟨p.toNat,by omega⟩
 have:=List.all_eq_true.1 Em n (List.mem_range.2 (by omega))
 have h0:¬ n=0:=by omega
 simp only [beq_iff_eq,Bool.or_eq_true,h0,false_or] at this
 rw [this,Int.toNat_natCast,List.map_replicate];rfl
end Go.Proofs.YtpglkdijpcgcaaaGreatDoor
