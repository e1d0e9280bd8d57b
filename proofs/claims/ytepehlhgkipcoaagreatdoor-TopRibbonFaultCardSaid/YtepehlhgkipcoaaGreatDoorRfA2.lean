/- Laws of plain functions, part 2. -/
import Derived.Test.YtepehlhgkipcoaaGreatDoorRfA1
set_option maxRecDepth 8000
namespace Go.Proofs.YtepehlhgkipcoaaGreatDoor
open Go.RowKit
open Classical
theorem hx_eq (x:UInt8):Hd ((x.toNat:Nat):Int) 7=some (((x.toNat % 7:Nat):Int))∧w64 (2 + ((x.toNat % 7:Nat):Int))=((hx x:Nat):Int):=by
 refine ⟨by rw [D4 (by omega) (by omega)]; rfl,?_⟩
 unfold hx
 rw [Qj (by omega) (by omega)]; omega
def D6 (H:Nat) (d:Design):Prop:=d.Hooks=H∧(1 ≤ d.Rows.length∧d.Rows.length ≤ 12)∧∀ r ∈ d.Rows,0 ≤ r∧r < ((2 ^ H:Nat):Int)
theorem s16d (x:UInt8) (rows:List UInt16) (hl:rows.length ≤ 9223372036854775807):Yes (f14 x rows) (D6 (hx x)):=by
 have hH:=P8 x
 unfold f14
 refine Gv _ (hx_eq x).1 ?_
 rw [(hx_eq x).2]
 generalize hx x=H at hH ⊢
 have hp:=Xp (H:=H) (by omega)
 refine Yes.bind (Yes.mono (Q':=D6 H) ?_ fun d hd=>Yes.some hd)
 refine Yes.upto (max 1 (min rows.length 12)) (by omega) (fun i d=>d.Hooks=H∧d.Rows.length=i∧∀ r ∈ d.Rows,0 ≤ r∧r < ((2 ^ H:Nat):Int)) ⟨rfl,rfl,by simp⟩ (fun i d k hi hI hk=>?_) (fun d k hI=>?_)
 ·obtain ⟨i1, i2, i3⟩ := hI
  have h2:(2:Int) ≤ ((2 ^ H:Nat):Int):=by
   have:2 ^ 1 ≤ 2 ^ H:=Nat.pow_le_pow_right (by omega) (by omega)
   omega
  refine Yes.jn (Gv true (first i _ 12 hi) (K3 rfl (Yes.bind (Yes.bind (Yes.mono (Q':=fun r=>0 ≤ r∧r < ((2 ^ H:Nat):Int)) ?_ fun r hr=>?_)))))
  ·refine Yes.cond (fun hc => ?_) (fun _ => Yes.some (by omega))
   have hlt:i < rows.length:=by have:=of_decide_eq_true hc; omega
   rw [i1,Cp (by omega) (by omega)]
   refine Gv _ (Xu hlt) (Gv _ (Xn (by omega)) (Gv _ (D4 (by omega) (by omega)) (Yes.some ⟨Int.emod_nonneg _ (by omega),Int.emod_lt_of_pos _ (by omega)⟩)))
  ·refine Yes.bind (Yes.apnd (by rw [i2]; simp; omega) (by rw [i2]; simp; omega) (Yes.some (hk _ ⟨i1, by simp [i2], fun a ha => ?_⟩)))
   rcases List.mem_append.1 ha with ha | ha
   ·exact i3 a ha
   ·rw [List.mem_singleton.1 ha]; exact hr
 ·obtain ⟨i1, i2, i3⟩ := hI
  exact Yes.jn (Gv false (last _ 12 (by omega)) (T7 rfl (Yes.some ⟨i1,by omega,i3⟩)))
def L6 (H:Nat) (l:FaultLoom):Prop:=D6 H l.Design∧E2 H l.Harness
theorem s4m (x:UInt8) (rows:List UInt16) (hl:rows.length ≤ 9223372036854775807):Yes (f4 x rows) (L6 (hx x)):=by
 have hH:=P8 x
 unfold f4
 refine Yes.bind ((s16d x rows hl).mono fun d hd=>?_)
 generalize hx x=H at hH hd ⊢
 rw [hd.1]
 refine Yes.bind (Yes.mono (Q':=fun l=>l.Design=d∧l.Harness.Hooks=H∧l.Harness.Warps.length=H∧∀ a ∈ l.Harness.Warps,0 ≤ a∧a ≤ (H:Int) - 1) ?_ fun l hl=>?_)
 ·refine Yes.upto H (by omega) (fun i l => l.Design = d ∧ l.Harness.Hooks = H ∧ l.Harness.Warps.length = i ∧ ∀ a ∈ l.Harness.Warps, 0 ≤ a ∧ a ≤ (H : Int) - 1) ⟨rfl, rfl, rfl, by simp⟩ (fun i l k hi hI hk => ?_) (fun l k hI => ?_)
  ·obtain ⟨h1, h2, h3, h4⟩ := hI
   refine Yes.jn (K3 (decide_eq_true (by rw [h1,hd.1]; omega)) (Yes.bind (Yes.bind (Yes.apnd (by rw [h3]; simp; omega) (by rw [h3]; simp; omega) (Yes.some (hk _ ⟨h1,h2,by simp [h3],fun a ha=>?_⟩))))))
   rcases List.mem_append.1 ha with ha | ha
   ·exact h4 a ha
   ·rw [List.mem_singleton.1 ha]; omega
  ·obtain ⟨h1, h2, h3, h4⟩ := hI
   exact Yes.jn (T7 (decide_eq_false (by rw [h1,hd.1]; omega)) (Yes.some ⟨h1,h2,h3,h4⟩))
 ·obtain ⟨h1, h2, h3, h4⟩ := hl
  rw [h1,hd.1,Qj (n:=(H:Int) - 2) (by omega) (by omega)]
  refine Yes.bind (Yes.mono (Q':=L6 H) ?_ fun l hl=>Yes.some hl)
  refine Yes.lp (fun st=>∃ i:Nat,i ≤ H - 2∧st.2=((H - 2 - i:Nat):Int)∧st.1.Design=d∧st.1.Harness.Hooks=H∧st.1.Harness.Warps.length=H + i∧∀ a ∈ st.1.Harness.Warps,0 ≤ a∧a ≤ (H:Int) - 1) (fun st=>st.2.toNat) ⟨0,by omega,by show (H:Int) - 2=_; omega,h1,h2,h3,h4⟩ (by show ((H:Int) - 2).toNat < _; omega) ?_
  rintro ⟨l2,j⟩ k ⟨i,hi,hj,g1,g2,g3,g4⟩ hk
  simp only at hj g1 g2 g3 g4
  subst hj
  refine Yes.jn (Yes.cond (fun hc=>?_) (fun hc=>?_))
  ·have hc := of_decide_eq_true hc
   refine Yes.bind (Yes.bind (Yes.apnd (by rw [g3]; simp; omega) (by rw [g3]; simp; omega) (Yes.some (hk _ ⟨i + 1,by omega,?_,g1,g2,by simp [g3]; omega,fun a ha=>?_⟩ ?_))))
   ·show w64 (((H - 2 - i : Nat) : Int) - 1) = _
    rw [Qj (by omega) (by omega)]; omega
   ·rcases List.mem_append.1 ha with ha | ha
    ·exact g4 a ha
    ·rw [List.mem_singleton.1 ha]; omega
   ·show (w64 (((H - 2 - i : Nat) : Int) - 1)).toNat < _
    rw [Qj (by omega) (by omega)]
    show _ < (((H - 2 - i:Nat):Int)).toNat
    omega
  ·exact Yes.some ⟨g1 ▸ hd,g2,by omega,g4⟩
def Pq (l:FaultLoom):Gj:=⟨[⟨⟨[108,105,108,121]⟩,l.Harness⟩],[⟨⟨[114,111,115,101]⟩,⟨l.Design.Hooks,Hw l.Design.Rows⟩⟩]⟩
theorem M5 (rs:List Int) (r:Int):Hw (rs ++ [r])=Hw rs ++ [⟨rs.length,r,false⟩]:=by unfold Hw; rw [List.mapIdx_concat]
theorem s21m (xs:List Int) (h:xs.length ≤ 1000):f15 xs=some xs:=by
 refine Yes.eq ?_
 unfold f15
 exact Yes.bind (Yes.apnd (by simp; omega) (by simp; omega) (Yes.some rfl))
theorem s9m {H:Nat} {l:FaultLoom} (h:L6 H l):f6 l=some (Pq l):=by
 obtain ⟨⟨h1,h2,h3⟩,k1,k2,k3⟩:=h
 refine Yes.eq ?_
 unfold f6
 refine Yes.bind (Yes.mono (Q':=fun b=>b=⟨l.Design.Hooks,Hw l.Design.Rows⟩) ?_ fun b hb=>?_)
 ·refine Yes.upto l.Design.Rows.length (by omega) (fun i b => b = ⟨l.Design.Hooks, Hw (l.Design.Rows.take i)⟩) rfl (fun i b k hi hI hk => ?_) (fun b k hI => ?_)
  ·subst hI
   refine Yes.jn (K3 (decide_eq_true (by omega)) (Yes.bind (Gv _ (Xu hi) (Yes.bind (Yes.apnd ?_ ?_ (Yes.some (hk _ ?_)))))))
   ·show ((Hw (l.Design.Rows.take i)).length + _) * 24 ≤ _
    rw [Hv,List.length_take]; simp; omega
   ·show (Hw (l.Design.Rows.take i)).length + _ ≤ _
    rw [Hv,List.length_take]; simp; omega
   ·rw [Yi hi,M5,List.length_take,Nat.min_eq_left (by omega)]
  ·subst hI
   rw [List.take_length]
   exact Yes.jn (T7 (decide_eq_false (by omega)) (Yes.some rfl))
 ·subst hb
  refine Gv _ (s21m _ (by omega)) (Yes.some ?_)
  rfl
theorem bok6 {H:Nat} {d:Design} (h:D6 H d):B3 H ⟨d.Hooks,Hw d.Rows⟩:=by
 obtain ⟨h1,h2,h3⟩:=h
 refine ⟨h1,by rw [Hv]; exact h2,fun c hc=>?_⟩
 obtain ⟨i,hi,rfl⟩:=List.getElem_of_mem hc
 have hi':i < d.Rows.length:=by rw [← Hv]; exact hi
 rw [Dh hi hi']
 have:=h3 d.Rows[i] (List.getElem_mem hi')
 exact ⟨⟨by simp,by show (i:Int) ≤ 59; omega⟩,this.1,this.2⟩
theorem b45 (xs:List Gn) (φ:Gn→Option Bool) (p:Gn→Bool) (hl:xs.length < 9223372036854775807) (h:∀ a ∈ xs,φ a=some (p a)):f43 xs φ=some (xs.any p):=by
 obtain ⟨r,hr,hq⟩:=Yd xs φ p hl h
 have hr:f75 xs φ=some r:=hr
 unfold f43; rw [hr]; simp only [Option.bind_some]; rw [Jl hq]
theorem b46 (xs:List Gc) (φ:Gc→Option Bool) (p:Gc→Bool) (hl:xs.length < 9223372036854775807) (h:∀ a ∈ xs,φ a=some (p a)):f44 xs φ=some (xs.any p):=by
 obtain ⟨r,hr,hq⟩:=Yd xs φ p hl h
 have hr:f76 xs φ=some r:=hr
 unfold f44; rw [hr]; simp only [Option.bind_some]; rw [Jl hq]
theorem n40 (t:Gn):f38 [t] (fun a0=>f39 a0)=some [t.Name]:=by kernel_rfl
theorem n42 (t:Gc):f40 [t] (fun a0=>f41 a0)=some [t.Name]:=by kernel_rfl
theorem n44a:f42 [⟨[108,105,108,121]⟩]=some true:=by kernel_rfl
theorem n44b:f42 [⟨[114,111,115,101]⟩]=some true:=by kernel_rfl
theorem Et:((List.range 16).all fun p=>p == 0 || f48 [1] (p:Int) == some (List.replicate p (1:Int)))=true:=by kernel_rfl
theorem s50r {p:Int} (h:1 ≤ p∧p ≤ 15):f48 [1] p=some ((List.replicate p.toNat 1).map fun s:Nat=>(s:Int)):=by
 obtain ⟨n,rfl⟩:∃ n:Nat,p=n:=⟨p.toNat,by omega⟩
 have:=List.all_eq_true.1 Et n (List.mem_range.2 (by omega))
 have h0:¬ n=0:=by omega
 simp only [beq_iff_eq,Bool.or_eq_true,h0,false_or] at this
 rw [this,Int.toNat_natCast,List.map_replicate]; rfl
end Go.Proofs.YtepehlhgkipcoaaGreatDoor
