/- TopRibbonYards: the mill, the weaving of a cloth. -/
import Derived.Test.YtbelgnbjkciafaaGreatDoorRbZ1
set_option maxRecDepth 8000
namespace Go.Proofs.YtbelgnbjkciafaaGreatDoor
open Go.RowKit
open Classical
theorem first (i n m:Nat) (hi:i < max 1 (min n m)):(bif ((i:Int) == (0:Int)) then some (true) else bif (decide ((i:Int) < (n:Int))) then some ((decide ((i:Int) < (m:Int)))) else some (false))=some true:=by
 refine Yes.eq (Yes.cond (fun _=>Yes.some rfl) (fun hc=>?_))
 have h0:¬ (i:Int)=0:=by simpa using hc
 exact qtake (decide_eq_true (by omega)) (Yes.some (decide_eq_true (by omega)))
theorem last (n m:Nat) (hm:1 ≤ m):(bif (((max 1 (min n m):Nat):Int) == (0:Int)) then some (true) else bif (decide (((max 1 (min n m):Nat):Int) < (n:Int))) then some ((decide (((max 1 (min n m):Nat):Int) < (m:Int)))) else some (false))=some false:=by
 refine Yes.eq (qskip (beq_eq_false_iff_ne.2 (by omega)) (Yes.cond (fun hc=>?_) (fun _=>Yes.some rfl)))
 have:=of_decide_eq_true hc
 exact Yes.some (decide_eq_false (by omega))
def D6 (d:Design):Prop:=d.Hooks=6∧(1 ≤ d.Rows.length∧d.Rows.length ≤ 12)∧∀ r ∈ d.Rows,0 ≤ r∧r < 64
theorem s16d (rows:List UInt16) (hl:rows.length ≤ 9223372036854775807):Yes (f16 4 rows) D6:=by
 unfold f16
 refine qbind _ (show rem64 (((4:UInt8).toNat:Nat):Int) 7=some 4 from rfl) ?_
 refine Yes.bind (Yes.mono (Q':=D6) ?_ fun d hd=>Yes.some hd)
 refine Yes.upto (max 1 (min rows.length 12)) (by omega) (fun i d=>d.Hooks=6∧d.Rows.length=i∧∀ r ∈ d.Rows,0 ≤ r∧r < 64) ⟨rfl,rfl,by simp⟩ (fun i d k hi hI hk=>?_) (fun d k hI=>?_)
 ·obtain ⟨i1, i2, i3⟩ := hI
  refine Yes.jn (qbind true (first i _ 12 hi) (qtake rfl (Yes.bind (Yes.bind (Yes.mono (Q':=fun r=>0 ≤ r∧r < 64) ?_ fun r hr=>?_)))))
  ·refine Yes.cond (fun hc => ?_) (fun _ => Yes.some (by omega))
   have hlt:i < rows.length:=by have:=of_decide_eq_true hc; omega
   rw [i1]
   have hn:=(rows[i]'hlt).toNat_lt
   refine qbind _ (qidx hlt) (qbind _ (show shl64 1 (wu64 6)=some 64 by kernel_rfl) (qbind _ (rem_nn (by omega) (by omega)) (Yes.some (by omega))))
  ·refine Yes.bind (Yes.apnd (by rw [i2]; simp; omega) (by rw [i2]; simp; omega) (Yes.some (hk _ ⟨i1, by simp [i2], fun a ha => ?_⟩)))
   rcases List.mem_append.1 ha with ha | ha
   ·exact i3 a ha
   ·rw [List.mem_singleton.1 ha]; exact hr
 ·obtain ⟨i1, i2, i3⟩ := hI
  exact Yes.jn (qbind false (last _ 12 (by omega)) (qskip rfl (Yes.some ⟨i1,by omega,i3⟩)))
def L6 (l:FaultLoom):Prop:=D6 l.Design∧HOkz 6 l.Harness
theorem s4m (rows:List UInt16) (hl:rows.length ≤ 9223372036854775807):Yes (f4 4 rows) L6:=by
 unfold f4
 refine Yes.bind ((s16d rows hl).mono fun d hd=>?_)
 rw [hd.1]
 refine Yes.bind (Yes.mono (Q':=fun l=>l.Design=d∧l.Harness.Hooks=6∧l.Harness.Warps.length=6∧∀ a ∈ l.Harness.Warps,0 ≤ a∧a ≤ 5) ?_ fun l hl=>?_)
 ·refine Yes.upto 6 (by omega) (fun i l => l.Design = d ∧ l.Harness.Hooks = 6 ∧ l.Harness.Warps.length = i ∧ ∀ a ∈ l.Harness.Warps, 0 ≤ a ∧ a ≤ 5) ⟨rfl, rfl, rfl, by simp⟩ (fun i l k hi hI hk => ?_) (fun l k hI => ?_)
  ·obtain ⟨h1, h2, h3, h4⟩ := hI
   refine Yes.jn (qtake (decide_eq_true (by rw [h1,hd.1]; omega)) (Yes.bind (Yes.bind (Yes.apnd (by rw [h3]; simp; omega) (by rw [h3]; simp; omega) (Yes.some (hk _ ⟨h1,h2,by simp [h3],fun a ha=>?_⟩))))))
   rcases List.mem_append.1 ha with ha | ha
   ·exact h4 a ha
   ·rw [List.mem_singleton.1 ha]; omega
  ·obtain ⟨h1, h2, h3, h4⟩ := hI
   exact Yes.jn (qskip (decide_eq_false (by rw [h1,hd.1]; decide)) (Yes.some ⟨h1,h2,h3,h4⟩))
 ·obtain ⟨h1, h2, h3, h4⟩ := hl
  rw [h1,hd.1]
  refine Yes.bind (Yes.mono (Q':=L6) ?_ fun l hl=>Yes.some hl)
  refine Yes.lp (fun st=>∃ i:Nat,i ≤ 4∧st.2=((4 - i:Nat):Int)∧st.1.Design=d∧st.1.Harness.Hooks=6∧st.1.Harness.Warps.length=6 + i∧∀ a ∈ st.1.Harness.Warps,0 ≤ a∧a ≤ 5) (fun st=>st.2.toNat) ⟨0,by omega,by rfl,h1,h2,h3,h4⟩ (by show (w64 (6 - 2)).toNat < _; rw [show w64 (6 - 2)=4 from rfl]; decide) ?_
  rintro ⟨l2,j⟩ k ⟨i,hi,hj,g1,g2,g3,g4⟩ hk
  simp only at hj g1 g2 g3 g4
  subst hj
  refine Yes.jn (Yes.cond (fun hc=>?_) (fun hc=>?_))
  ·have hc := of_decide_eq_true hc
   refine Yes.bind (Yes.bind (Yes.apnd (by rw [g3]; simp; omega) (by rw [g3]; simp; omega) (Yes.some (hk _ ⟨i + 1,by omega,?_,g1,g2,by simp [g3]; omega,fun a ha=>?_⟩ ?_))))
   ·show w64 (((4 - i : Nat) : Int) - 1) = _
    rw [w64_id (by omega) (by omega)]; omega
   ·rcases List.mem_append.1 ha with ha | ha
    ·exact g4 a ha
    ·rw [List.mem_singleton.1 ha]; omega
   ·show (w64 (((4 - i : Nat) : Int) - 1)).toNat < _
    rw [w64_id (by omega) (by omega)]
    show _ < (((4 - i:Nat):Int)).toNat
    omega
  ·exact Yes.some ⟨g1 ▸ hd,g2,by omega,g4⟩
def millOf (l:FaultLoom):BookMill:=⟨[⟨⟨[108,105,108,121]⟩,l.Harness⟩],[⟨⟨[114,111,115,101]⟩,⟨6,crdz l.Design.Rows⟩⟩]⟩
theorem crd_snocz (rs:List Int) (r:Int):crdz (rs ++ [r])=crdz rs ++ [⟨rs.length,r,false⟩]:=by unfold crdz; rw [List.mapIdx_concat]
theorem s21m (xs:List Int) (h:xs.length ≤ 1000):f21 xs=some xs:=by
 refine Yes.eq ?_
 unfold f21
 exact Yes.bind (Yes.apnd (by simp; omega) (by simp; omega) (Yes.some rfl))
theorem s9m {l:FaultLoom} (h:L6 l):f9 l=some (millOf l):=by
 obtain ⟨⟨h1,h2,h3⟩,k1,k2,k3⟩:=h
 refine Yes.eq ?_
 unfold f9
 rw [h1]
 refine Yes.bind (Yes.mono (Q':=fun b=>b=⟨6,crdz l.Design.Rows⟩) ?_ fun b hb=>?_)
 ·refine Yes.upto l.Design.Rows.length (by omega) (fun i b => b = ⟨6, crdz (l.Design.Rows.take i)⟩) rfl (fun i b k hi hI hk => ?_) (fun b k hI => ?_)
  ·subst hI
   refine Yes.jn (qtake (decide_eq_true (by omega)) (Yes.bind (qbind _ (qidx hi) (Yes.bind (Yes.apnd ?_ ?_ (Yes.some (hk _ ?_)))))))
   ·show ((crdz (l.Design.Rows.take i)).length + _) * 24 ≤ _
    rw [crd_lenz,List.length_take]; simp; omega
   ·show (crdz (l.Design.Rows.take i)).length + _ ≤ _
    rw [crd_lenz,List.length_take]; simp; omega
   ·rw [take_succz hi,crd_snocz,List.length_take,Nat.min_eq_left (by omega)]
  ·subst hI
   rw [List.take_length]
   exact Yes.jn (qskip (decide_eq_false (by omega)) (Yes.some rfl))
 ·subst hb
  refine qbind _ (s21m _ (by omega)) (Yes.some ?_)
  rfl
theorem bok6 {d:Design} (h:D6 d):BOkz 6 ⟨6,crdz d.Rows⟩:=by
 obtain ⟨h1,h2,h3⟩:=h
 refine ⟨rfl,by rw [crd_lenz]; exact h2,fun c hc=>?_⟩
 obtain ⟨i,hi,rfl⟩:=List.getElem_of_mem hc
 have hi':i < d.Rows.length:=by rw [← crd_lenz]; exact hi
 rw [crd_atz hi hi']
 have:=h3 d.Rows[i] (List.getElem_mem hi')
 exact ⟨⟨by simp,by show (i:Int) ≤ 59; omega⟩,this.1,this.2⟩
theorem b45 (xs:List BookTie) (φ:BookTie→Option Bool) (p:BookTie→Bool) (hl:xs.length < 9223372036854775807) (h:∀ a ∈ xs,φ a=some (p a)):f45 xs φ=some (xs.any p):=by
 obtain ⟨r,hr,hq⟩:=index_is xs φ p hl h
 have hr:f81 xs φ=some r:=hr
 unfold f45; rw [hr]; simp only [Option.bind_some]; rw [index_any hq]
theorem b46 (xs:List BookChain) (φ:BookChain→Option Bool) (p:BookChain→Bool) (hl:xs.length < 9223372036854775807) (h:∀ a ∈ xs,φ a=some (p a)):f46 xs φ=some (xs.any p):=by
 obtain ⟨r,hr,hq⟩:=index_is xs φ p hl h
 have hr:f82 xs φ=some r:=hr
 unfold f46; rw [hr]; simp only [Option.bind_some]; rw [index_any hq]
theorem n40 (t:BookTie):f40 [t] (fun a0=>f41 a0)=some [t.Name]:=by kernel_rfl
theorem n42 (t:BookChain):f42 [t] (fun a0=>f43 a0)=some [t.Name]:=by kernel_rfl
theorem n44a:f44 [⟨[108,105,108,121]⟩]=some true:=by kernel_rfl
theorem n44b:f44 [⟨[114,111,115,101]⟩]=some true:=by kernel_rfl
theorem s18m {l:FaultLoom} (h:L6 l):f18 (millOf l)=some 0:=by
 have hb:=bok6 h.1
 have h37:f37 l.Harness=some 0:=c105z (by omega) h.2
 have h39:f39 ⟨6,crdz l.Design.Rows⟩=some 0:=by
  refine Yes.eq ?_
  unfold f39
  exact qbind _ (c111z (by omega) hb) (Yes.some rfl)
 have h36:∀ a ∈ (millOf l).Ties,f36 a=some false:=fun a ha=>by
  have ha:a=⟨⟨[108,105,108,121]⟩,l.Harness⟩:=by simpa [millOf] using ha
  subst ha
  refine Yes.eq ?_
  unfold f36
  exact qbind _ h37 (Yes.some rfl)
 have h38:∀ a ∈ (millOf l).Chains,f38 a=some false:=fun a ha=>by
  have ha:a=⟨⟨[114,111,115,101]⟩,⟨6,crdz l.Design.Rows⟩⟩:=by simpa [millOf] using ha
  subst ha
  refine Yes.eq ?_
  unfold f38
  exact qbind _ h39 (Yes.some rfl)
 refine Yes.eq ?_
 unfold f18
 refine Yes.jn (Yes.bind (qskip rfl (Yes.some (qskip rfl ?_))))
 refine qbind _ (n40 _) (qbind _ (n42 _) (Yes.jn (Yes.bind ?_)))
 refine qbind _ n44a (qskip rfl (qbind _ n44b (qskip rfl ?_)))
 refine qbind _ (b45 _ _ (fun _=>false) (by show 1 < _; omega) h36) (qskip rfl (qbind _ (b46 _ _ (fun _=>false) (by show 1 < _; omega) h38) (Yes.some (qskip rfl (Yes.some rfl)))))
end Go.Proofs.YtbelgnbjkciafaaGreatDoor
