/- Laws of plain functions, part 2. -/
import Derived.Test.YtomjodbnpgbjnaaGreatLawM1
set_option maxRecDepth 8000
namespace Go.Proofs.YtomjodbnpgbjnaaGreat
open Go.RowKit
open Classical
theorem s94 {m:LoomMill} {l:List LoomOrder} {r:List LoomRun} (g:Good m l) (R:Runs m l r):Yes (f83 ⟨m,l⟩ r) fun s=>(s=-1∧(List.range r.length).find? (fun i=>decide (soonP m l r i))=none) ∨ ∃ n:Nat,s=n∧n < r.length∧(List.range r.length).find? (fun i=>decide (soonP m l r i))=some n:=by
 have hr:=R.r7
 have hw3:=g.w3
 unfold f83
 have hmk:mks 1 (false:Bool) (r.length:Int)=some (List.replicate r.length false):=by
  unfold mks
  rw [if_pos (by omega)]; simp
 refine Yes.bind (Yes.of hmk (Yes.bind ?_))
 refine Yes.upto m.Widths.length (by omega) (fun t fl=>fl.length=r.length∧∀ i,i < r.length→fl.getD i false=decide ((rn r i).Loom < t∧soonP m l r i)) ⟨by simp,fun i hi=>?_⟩ (fun t fl k ht hI hk=>?_) (fun fl k hI=>?_)
 ·have := (R.inR i hi).2.1.1
  have:¬ ((rn r i).Loom < ((0:Nat):Int)∧soonP m l r i):=fun h=>by have:=h.1; omega
  rw [decide_eq_false this]
  simp [hi]
 ·have h1 : decide ((t : Int) < (m.Widths.length : Int)) = true := by simp; omega
  refine Yes.cond (fun _=>Yes.bind ?_) (fun h=>by rw [h1] at h; cases h)
  obtain ⟨A,hf,hA,hpw⟩:=s68 g R (t:Int)
  refine Yes.bind (Yes.of hf ?_)
  have hA7:A.length ≤ r.length:=by
   have hnd:A.Nodup:=hpw.imp fun {a b} h e=>by subst e; exact bef_irr h
   exact nodup_lt _ _ hnd fun x hx=>((hA x).1 hx).1
  refine Yes.lp (fun s=>∃ q:Nat,s.2=q∧0 < q∧q ≤ r.length + 1∧s.1.length=r.length∧∀ i,i < r.length→s.1.getD i false=decide (((rn r i).Loom < t ∨ ∃ j,1 ≤ j∧j < q∧A[j]?=some i)∧soonP m l r i)) (fun s=>r.length + 1 - s.2.toNat) ⟨1,rfl,by omega,by omega,hI.1,fun i hi=>?_⟩ (by simp; omega) ?_
  ·rw [hI.2 i hi, decide_eq_decide]
   constructor
   ·exact fun h=>⟨.inl h.1,h.2⟩
   ·rintro ⟨h | ⟨j, h3, h4, _⟩, h2⟩
    ·exact ⟨h,h2⟩
    ·omega
  ·rintro ⟨fl2, j⟩ K ⟨q, hq, hq0, hq7, hl2, hI2⟩ hK
   simp only at hq hl2 hI2 hK
   subst hq
   refine Yes.jn (Yes.cond (fun h=>Yes.bind ?_) (fun h=>Yes.some (hk _ ⟨hl2,fun i hi=>?_⟩)))
   ·have hqA : q < A.length := by simp at h; omega
    have hlen:(A.map fun (n:Nat)=>(n:Int)).length=A.length:=by simp
    have e1:idx (A.map fun (n:Nat)=>(n:Int)) (q:Int)=some (A[q]:Int):=by rw [idx_at (by omega)]; simp
    have e2:idx (A.map fun (n:Nat)=>(n:Int)) (w64 ((q:Int) - 1))=some ((A[q - 1]'(by omega):Nat):Int):=by
     rw [w64_id (by omega) (by omega),show (q:Int) - 1=((q - 1:Nat):Int) by omega,idx_at (by omega)]; simp
    have m0:=(hA _).1 (List.getElem_mem hqA)
    have m1:=(hA _).1 (List.getElem_mem (show q - 1 < A.length by omega))
    have hin:=R.inR _ m0.1
    simp only [e1,e2,Option.bind_some,idx_rn m0.1,idx_rn m1.1,s69 g (R.inR _ m1.1) hin.1.1 hin.1.2,idx_at (show A[q] < fl2.length by omega)]
    refine Yes.some (hK _ ⟨q + 1,by rw [w64_succ (by omega)],by omega,by omega,by simp [hl2],fun i hi=>?_⟩ ?_)
    ·simp only [Int.toNat_natCast]
     rw [getDset (by omega)]
     by_cases hia:i=A[q]
     ·subst hia
      rw [if_pos rfl,decide_eq_decide,← soon_row R hA hpw hq0 hqA]
      exact ⟨fun h=>⟨.inr ⟨q,by omega,by omega,by simp [hqA]⟩,h⟩,fun h=>h.2⟩
     ·rw [if_neg hia, hI2 i hi, decide_eq_decide]
      constructor
      ·rintro ⟨h | ⟨j, h1, h2, h3⟩, h4⟩
       ·exact ⟨.inl h,h4⟩
       ·exact ⟨.inr ⟨j,h1,by omega,h3⟩,h4⟩
      ·rintro ⟨h | ⟨j, h1, h2, h3⟩, h4⟩
       ·exact ⟨.inl h,h4⟩
       ·refine ⟨.inr ⟨j, h1, ?_, h3⟩, h4⟩
        rcases Nat.lt_succ_iff_lt_or_eq.1 h2 with h5 | rfl
        ·exact h5
        ·rw [List.getElem?_eq_getElem hqA] at h3
         exact absurd (Option.some.inj h3).symm hia
    ·simp only [w64_succ (show q < 4611686018427387904 by omega)]; simp; omega
   ·have hqA : A.length ≤ q := by simp at h; omega
    rw [hI2 i hi,decide_eq_decide]
    constructor
    ·rintro ⟨h | ⟨j, h1, h2, h3⟩, h4⟩
     ·exact ⟨by omega,h4⟩
     ·have hm := (hA i).1 (List.mem_of_getElem? h3)
      exact ⟨by omega,h4⟩
    ·rintro ⟨h1, h4⟩
     refine ⟨?_,h4⟩
     by_cases hlt:(rn r i).Loom < t
     ·exact .inl hlt
     ·have hm := (hA i).2 ⟨hi, by omega⟩
      obtain ⟨j,hj,rfl⟩:=List.mem_iff_getElem.1 hm
      refine .inr ⟨j,?_,by omega,by simp [hj]⟩
      rcases Nat.eq_zero_or_pos j with rfl | h
      ·exact absurd h4 (soon_first hA hpw hj)
      ·exact h
 ·have h1 : decide ((m.Widths.length : Int) < (m.Widths.length : Int)) = false := by simp
  refine Yes.cond (fun h=>by rw [h1] at h; cases h) (fun _=>Yes.some (Yes.bind ((s103 fl (by have:=hI.1; omega)).mono fun s hs=>Yes.some ?_)))
  have hfl:=hI.1
  have hc:(List.range fl.length).find? (fun i=>fl.getD i false)=(List.range r.length).find? (fun i=>decide (soonP m l r i)):=by
   rw [hfl]
   have:∀ x ∈ List.range r.length,fl.getD x false=decide (soonP m l r x):=fun x hx=>by
    have hx:=List.mem_range.1 hx
    rw [hI.2 x hx,decide_eq_decide]
    exact ⟨fun h=>h.2,fun h=>⟨(R.inR x hx).2.1.2,h⟩⟩
   generalize List.range r.length=xs at this ⊢
   induction xs with
   | nil=>rfl
   | cons a xs ih=>
    rw [List.find?_cons,List.find?_cons,this a (by simp),ih fun x hx=>this x (by simp [hx])]
  rw [hc,hfl] at hs
  exact hs
theorem cond_tt {α:Type} {c:Bool} {a b:α} (h:c=true):(bif c then a else b)=a:=by rw [h]; rfl
noncomputable def holdsV (m:LoomMill) (l:List LoomOrder) (r:List LoomRun):Int × Int:=
 if r.length > l.length then (0, 5) else
  match (List.range r.length).find? (fun i=>decide (oneE m l r i ≠ 0)) with
  | some i=>(i,oneE m l r i)
  | none => match (List.range r.length).find? (fun i => decide (soonP m l r i)) with
   | some i=>(i,6)
   | none=>(0,0)
theorem one_ok {m:LoomMill} {l:List LoomOrder} {r:List LoomRun} {i:Nat} (h:oneE m l r i=0):inR m l (rn r i)∧(0 < i→(rn r (i - 1)).Order < (rn r i).Order)∧(od l (rn r i).Order).Width ≤ wd m (rn r i).Loom∧(od l (rn r i).Order).Early ≤ (rn r i).From∧endR l (rn r i) ≤ (od l (rn r i).Order).Late:=by
 unfold oneE at h
 by_cases h1:inR m l (rn r i)
 ·rw [if_neg (fun k => k h1)] at h
  by_cases h2:0 < i∧(rn r i).Order ≤ (rn r (i - 1)).Order
  ·rw [if_pos h2] at h; cases h
  ·rw [if_neg h2] at h
   by_cases h3:(od l (rn r i).Order).Width > wd m (rn r i).Loom
   ·rw [if_pos h3] at h; cases h
   ·rw [if_neg h3] at h
    by_cases h4:(rn r i).From < (od l (rn r i).Order).Early ∨ endR l (rn r i) > (od l (rn r i).Order).Late
    ·rw [if_pos h4] at h; cases h
    ·exact ⟨h1,by omega,by omega,by omega,by omega⟩
 ·rw [if_pos h1] at h; cases h
theorem runs_of {m : LoomMill} {l : List LoomOrder} {r : List LoomRun} (h7 : r.length ≤ 7) (h : ∀ i, i < r.length → oneE m l r i = 0) : Runs m l r where
 r7:=h7
 inR i hi:=(one_ok (h i hi)).1
 up i j hij hj:=by
  induction j with
  | zero=>omega
  | succ j ih=>
   have h1:=(one_ok (h (j + 1) hj)).2.1 (by omega)
   simp only [Nat.add_sub_cancel] at h1
   rcases Nat.lt_succ_iff_lt_or_eq.1 hij with h2 | rfl
   ·have:=ih h2 (by omega); omega
   ·exact h1
theorem s78 {m:LoomMill} {l:List LoomOrder} (g:Good m l) (r:List LoomRun) (hr:r.length ≤ 1000):f59 ⟨m,l⟩ r=some (holdsV m l r):=by
 have hl7:=g.l7
 refine Yes.eq ?_
 unfold f59 holdsV
 by_cases hlen:r.length > l.length
 ·have h1 : decide ((r.length : Int) > (l.length : Int)) = true := by simp; omega
  rw [if_pos hlen]
  exact Yes.jn (Yes.cond (fun _=>Yes.some rfl) (fun h=>by rw [h1] at h; cases h))
 ·have h1 : decide ((r.length : Int) > (l.length : Int)) = false := by simp; omega
  rw [if_neg hlen]
  refine Yes.jn (Yes.cond (fun h=>by rw [h1] at h; cases h) (fun _=>Yes.jn (first_loop r.length (by omega) (fun i=>decide (oneE m l r i ≠ 0)) (fun i=>some ((i:Int),oneE m l r i)) (fun k i hi=>?_) (fun hf k=>?_) (fun i hi hf hp=>?_))))
  ·have h2 : decide ((i : Int) < (r.length : Int)) = true := by simp; omega
   simp only [jn,h2,cond_true,s93 g hi (by omega),Option.bind_some]
   by_cases h:oneE m l r i=0
   ·simp [h]
   ·have : (oneE m l r i != 0) = true := by simp [h]
    simp [h,this]
  ·have h2 : decide ((r.length : Int) < (r.length : Int)) = false := by simp
   simp only [h2,cond_false]
   rw [hf]
   have R:Runs m l r:=runs_of (by omega) fun i hi=>by
    have:=List.find?_eq_none.1 hf i (List.mem_range.2 hi)
    simpa using this
   refine Yes.jn (Yes.bind ((s94 g R).mono fun s hs=>?_))
   rcases hs with ⟨rfl,h⟩ | ⟨n,rfl,hn,h⟩
   ·rw [h]
    exact Yes.cond (fun h=>by simp at h) (fun _=>Yes.some rfl)
   ·rw [h]
    exact Yes.cond (fun _=>Yes.some rfl) (fun h=>by simp at h)
  ·rw [hf]
   exact Yes.some rfl
def inB (m:LoomMill) (l:List LoomOrder) (x:LoomRun):Prop:=(0 ≤ x.Order∧x.Order < l.length)∧(0 ≤ x.Loom∧x.Loom < m.Widths.length)∧(0 ≤ x.From∧x.From ≤ 1000000)
theorem inR.b {m:LoomMill} {l:List LoomOrder} {x:LoomRun} (h:inR m l x):inB m l x:=⟨h.1,h.2.1,h.2.2.1,by have:=h.2.2.2; omega⟩
theorem endB {m:LoomMill} {l:List LoomOrder} (g:Good m l) {x:LoomRun} (hx:inB m l x):x.From + 1 ≤ endR l x∧endR l x ≤ x.From + 100:=by
 obtain ⟨⟨a1,a2⟩,_,c1,c2⟩:=hx
 have ho:=g.o _ (od_mem a1 a2)
 unfold endR; omega
theorem s73b {m:LoomMill} {l:List LoomOrder} (g:Good m l) {x:LoomRun} (hx:inB m l x):f42 ⟨m,l⟩ x=some (endR l x):=by
 have hb:=endB g hx
 obtain ⟨⟨a1,a2⟩,_,c1,c2⟩:=hx
 unfold f42
 rw [idx_od a1 a2,Option.bind_some]
 have:w64 (x.From + (od l x.Order).Woven)=endR l x:=w64_id (by have:endR l x=x.From + (od l x.Order).Woven:=rfl; omega) (by have:endR l x=x.From + (od l x.Order).Woven:=rfl; omega)
 rw [this]
theorem s69b {m:LoomMill} {l:List LoomOrder} (g:Good m l) {x:LoomRun} (hx:inB m l x) {o:Int} (h0:0 ≤ o) (h1:o < l.length):f37 ⟨m,l⟩ x o=some (freeR m l x o):=by
 have hb:=endB g hx
 have hc:=g.c
 have hf:=hx.2.2
 unfold f37
 simp only [jn]
 rw [idx_od hx.1.1 hx.1.2,idx_od h0 h1,s73b g hx]
 simp only [Option.bind_some]
 unfold freeR
 rw [w64_id (by omega) (by omega)]
 by_cases h:(od l x.Order).Chain=(od l o).Chain
 ·simp [h]
 ·have : ((od l x.Order).Chain == (od l o).Chain) = false := by simp [h]
  simp [this,h]
noncomputable def stopE (m:LoomMill) (st:LoomStop):Int:=
 if ¬ (0 ≤ st.Loom∧st.Loom < m.Widths.length) then 7 else if ¬ (0 ≤ st.Days.Low∧st.Days.Low ≤ st.Days.High∧st.Days.High ≤ 300) then 2 else 0
noncomputable def planE (m:LoomMill) (l:List LoomOrder) (r:List LoomRun):Int:=if chkE m l ≠ 0 then chkE m l else (holdsV m l r).2
noncomputable def stillE (m:LoomMill) (l:List LoomOrder) (r:List LoomRun) (st:LoomStop):Int:=if planE m l r ≠ 0 then planE m l r else stopE m st
theorem s65 {m:LoomMill} {l:List LoomOrder} {r:List LoomRun} {st:LoomStop} (hr:r.length ≤ 1000):f34 m l r st=some (if stillE m l r st=0 then ⟨⟨m,l⟩,st⟩ else ⟨⟨⟨[],0⟩,[]⟩,⟨0,⟨0,0⟩⟩⟩,stillE m l r st):=by
 refine Yes.eq ?_
 unfold f34
 rw [s50]
 refine Yes.bind (Yes.some (Yes.bind (Yes.of (a:=planE m l r) ?_ (Yes.jn ?_))))
 ·unfold openR planE
  by_cases hc:chkE m l=0
  ·simp [hc,s78 (good_of hc) r hr]
  ·have : (chkE m l == 0) = false := by simp [hc]
   simp [hc,this]
 by_cases hp:planE m l r=0
 ·have hc:chkE m l=0:=by
   unfold planE at hp
   by_cases hc:chkE m l=0
   ·exact hc
   ·rw [if_pos hc] at hp; exact hp
  have g:=good_of hc
  have hw:=g.w3
  have ho:openR m l=(⟨m,l⟩,0):=by simp [openR,hc]
  have h0:(planE m l r != 0)=false:=by simp [hp]
  rw [ho]
  refine Yes.cond (fun h=>by rw [h0] at h; cases h) (fun _=>?_)
  have hb1:([st.Loom].all (btw 0 (w64 ((m.Widths.length:Int) - 1))))=decide (0 ≤ st.Loom∧st.Loom < (m.Widths.length:Int)):=by
   rw [List.all_cons,List.all_nil,Bool.and_true,btw_sub _ _ (by omega)]
  rw [s81 _ _ _ (by simp),hb1,s71 _ (by simp)]
  by_cases h1:0 ≤ st.Loom∧st.Loom < (m.Widths.length:Int)
  ·by_cases h2 : 0 ≤ st.Days.Low ∧ st.Days.Low ≤ st.Days.High ∧ st.Days.High ≤ 300
   ·have e2 : ([st.Days.Low, st.Days.High].all (btw 0 300)) = true := by simp [btw]; omega
    have e3:decide (st.Days.Low > st.Days.High)=false:=by simp; omega
    have hs:stillE m l r st=0:=by simp [stillE,stopE,hp,h1,h2]
    rw [hs]
    simp only [h1,e2,e3,and_self,decide_true,Bool.not_true,Option.bind_some,cond_false,if_true]
    exact Yes.some rfl
   ·have hs : stillE m l r st = 2 := by unfold stillE stopE; rw [if_neg (fun h => h hp), if_neg (fun h => h h1), if_pos h2]
    rw [hs]
    by_cases h3:[st.Days.Low,st.Days.High].all (btw 0 300)=true
    ·have e3 : decide (st.Days.Low > st.Days.High) = true := by simp [btw] at h3; simp; omega
     simp only [h1,h3,e3,and_self,decide_true,Bool.not_true,Option.bind_some,cond_false,cond_true]
     exact Yes.some rfl
    ·simp only [Bool.not_eq_true] at h3
     simp only [h1,h3,and_self,decide_true,Bool.not_true,Bool.not_false,Option.bind_some,cond_false,cond_true]
     exact Yes.some rfl
  ·have hs : stillE m l r st = 7 := by unfold stillE stopE; rw [if_neg (fun h => h hp), if_pos h1]
   rw [hs]
   simp only [h1,decide_false,Bool.not_false,Option.bind_some,cond_true]
   exact Yes.some rfl
 ·have h0 : (planE m l r != 0) = true := by simp [hp]
  have hs:stillE m l r st=planE m l r:=by unfold stillE; rw [if_pos hp]
  rw [hs,if_neg hp]
  exact Yes.cond (fun _=>Yes.some rfl) (fun h=>by rw [h0] at h; cases h)
theorem still_ok {m:LoomMill} {l:List LoomOrder} {r:List LoomRun} {st:LoomStop} (h:stillE m l r st=0):Good m l∧Runs m l r∧(0 ≤ st.Loom∧st.Loom < m.Widths.length)∧(0 ≤ st.Days.Low∧st.Days.Low ≤ st.Days.High∧st.Days.High ≤ 300):=by
 have hp:planE m l r=0:=by
  unfold stillE at h
  by_cases hp:planE m l r=0
  ·exact hp
  ·rw [if_pos hp] at h; exact h
 have hs:stopE m st=0:=by unfold stillE at h; rw [if_neg (fun k=>k hp)] at h; exact h
 have hc:chkE m l=0:=by
  unfold planE at hp
  by_cases hc:chkE m l=0
  ·exact hc
  ·rw [if_pos hc] at hp; exact hp
 have g:=good_of hc
 have hv:(holdsV m l r).2=0:=by unfold planE at hp; rw [if_neg (fun k=>k hc)] at hp; exact hp
 refine ⟨g,?_,?_⟩
 ·unfold holdsV at hv
  by_cases hl:r.length > l.length
  ·rw [if_pos hl] at hv; cases hv
  ·rw [if_neg hl] at hv
   cases hf:(List.range r.length).find? (fun i=>decide (oneE m l r i ≠ 0)) with
   | some i=>
    rw [hf] at hv
    have:=List.find?_some hf
    simp at this
    exact absurd hv this
   | none=>
    have:=g.l7
    exact runs_of (by omega) fun i hi=>by
     have:=List.find?_eq_none.1 hf i (List.mem_range.2 hi)
     simpa using this
 ·unfold stopE at hs
  by_cases h1:0 ≤ st.Loom∧st.Loom < (m.Widths.length:Int)
  ·rw [if_neg (fun k => k h1)] at hs
   by_cases h2:0 ≤ st.Days.Low∧st.Days.Low ≤ st.Days.High∧st.Days.High ≤ 300
   ·exact ⟨h1,h2⟩
   ·rw [if_pos h2] at hs; cases hs
  ·rw [if_pos h1] at hs; cases hs
def meets (l:List LoomOrder) (st:LoomStop) (x:LoomRun):Prop:=x.From ≤ st.Days.High∧endR l x > st.Days.Low
theorem s66 {m:LoomMill} {l:List LoomOrder} (g:Good m l) (st:LoomStop) {x:LoomRun} (hx:inB m l x):f38 ⟨⟨m,l⟩,st⟩ x=some (decide (meets l st x)):=by
 unfold f38 meets
 rw [s73b g hx]
 by_cases h1:x.From ≤ st.Days.High <;> by_cases h2:endR l x > st.Days.Low <;> simp [h1,h2]
def coll (p:Nat→Bool) (v:Nat→Int) (n:Nat):List Int:=((List.range n).filter p).map v
theorem coll_succ (p:Nat→Bool) (v:Nat→Int) (n:Nat):coll p v (n + 1)=bif p n then coll p v n ++ [v n] else coll p v n:=by
 unfold coll
 rw [List.range_succ,List.filter_append]
 cases h:p n <;> simp [h]
theorem coll_len (p:Nat→Bool) (v:Nat→Int) (n:Nat):(coll p v n).length ≤ n:=by
 unfold coll
 rw [List.length_map]
 have:=List.length_filter_le p (List.range n)
 simpa using this
theorem coll_loop {β : Type} {Q : β → Prop} {body : (List Int × Int → Option β) → List Int × Int → Option β} (n : Nat) (hn : n < 4611686018427387904) (p : Nat → Bool) (v : Nat → Int)
  (hb:∀ k (i:Nat) (s:List Int),i < n→s.length ≤ i→body k (s,(i:Int))=k (bif p i then s ++ [v i] else s,w64 ((i:Int) + 1)))
  (he:∀ k,Yes (body k (coll p v n,(n:Int))) Q):Yes (lp body big (([]:List Int),(0:Int))) Q:=by
 refine Yes.upto n (by omega) (fun i s=>s=coll p v i) rfl (fun i s k hi hI hk=>?_) (fun s k hI=>?_)
 ·subst hI
  rw [hb k i _ hi (coll_len p v i)]
  exact hk _ (coll_succ p v i).symm
 ·subst hI
  exact he k
theorem apnd1 {b:Nat} {xs:List Int} {y:Int} (hb:b=8) (h:xs.length ≤ 1000):apnd b xs [y]=some (xs ++ [y]):=by
 subst hb
 exact Yes.eq (Yes.apnd (by simp; omega) (by simp; omega) rfl)
noncomputable def stopsV (l:List LoomOrder) (r:List LoomRun) (st:LoomStop):List Int:=coll (fun i=>decide ((rn r i).Loom=st.Loom∧meets l st (rn r i))) (fun i=>(rn r i).Order) r.length
theorem s33 {m:LoomMill} {l:List LoomOrder} {r:List LoomRun} {st:LoomStop} (hr:r.length ≤ 1000):f17 m l r st=some (if stillE m l r st=0 then (stopsV l r st,0) else ([],stillE m l r st)):=by
 refine Yes.eq ?_
 unfold f17
 rw [s65 hr]
 refine Yes.bind (Yes.some (Yes.jn ?_))
 by_cases he:stillE m l r st=0
 ·obtain ⟨g, R, hlo, hs⟩ := still_ok he
  have h0:(stillE m l r st != 0)=false:=by simp [he]
  rw [if_pos he,if_pos he]
  refine Yes.cond (fun h=>by rw [h0] at h; cases h) (fun _=>Yes.bind ?_)
  refine coll_loop r.length (by have:=R.r7; omega) (fun i=>decide ((rn r i).Loom=st.Loom∧meets l st (rn r i))) (fun i=>(rn r i).Order) (fun k i s hi hsl=>?_) (fun k=>?_)
  ·have h1 : decide ((i : Int) < (r.length : Int)) = true := by simp; omega
   refine (cond_tt h1).trans ?_
   simp only [idx_rn hi,Option.bind_some,s66 g st (R.inR i hi).b,apnd1 rfl (show s.length ≤ 1000 by omega)]
   by_cases hl:(rn r i).Loom=st.Loom
   ·by_cases hm:meets l st (rn r i) <;> simp [hl,hm]
   ·have : ((rn r i).Loom == st.Loom) = false := by simp [hl]
    simp [hl,this]
  ·have h1 : decide ((r.length : Int) < (r.length : Int)) = false := by simp
   exact Yes.cond (fun h=>by rw [h1] at h; cases h) (fun _=>Yes.some (Yes.some rfl))
 ·have h0 : (stillE m l r st != 0) = true := by simp [he]
  rw [if_neg he,if_neg he]
  exact Yes.cond (fun _=>Yes.some rfl) (fun h=>by rw [h0] at h; cases h)
theorem rn_set {r:List LoomRun} {i j:Nat} {x:LoomRun} (hi:i < r.length):rn (r.set i x) j=if j=i then x else rn r j:=by
 unfold rn
 by_cases h:j=i
 ·subst h; simp [hi]
 ·have : ¬ i = j := fun e => h e.symm
  simp [List.getElem?_set,h,this]
theorem set_rn {r:List LoomRun} {i:Nat} (hi:i < r.length):r.set i (rn r i)=r:=by
 have:rn r i=r[i]:=by unfold rn; simp [hi]
 rw [this]; exact List.set_getElem_self _
noncomputable def day1 (m:LoomMill) (l:List LoomOrder) (last:Option Nat) (r:List LoomRun) (i:Nat):Int:=
 match last with
 | none=>(rn r i).From
 | some j=>max64 (rn r i).From (freeR m l (rn r j) (rn r i).Order)
noncomputable def pushF (m:LoomMill) (l:List LoomOrder) (st:LoomStop) (last:Option Nat) (r:List LoomRun) (i:Nat):Int:=
 if meets l st { rn r i with From:=day1 m l last r i } then st.Days.High + 1 else day1 m l last r i
noncomputable def pushL (m : LoomMill) (l : List LoomOrder) (st : LoomStop) : Option Nat → List Nat → List LoomRun → List LoomRun
 | _,[],r=>r
 | last,i :: A,r=>pushL m l st (some i) A (r.set i { rn r i with From:=pushF m l st last r i })
structure W (r0 r : List LoomRun) (b : Int) : Prop where
 len:r.length=r0.length
 ord:∀ i,i < r0.length→(rn r i).Order=(rn r0 i).Order∧(rn r i).Loom=(rn r0 i).Loom∧0 ≤ (rn r i).From∧(rn r i).From ≤ b
theorem W.inB {m:LoomMill} {l:List LoomOrder} {r0 r:List LoomRun} {b:Int} (R:Runs m l r0) (w:W r0 r b) (hb:b ≤ 1000000) {i:Nat} (hi:i < r0.length):inB m l (rn r i):=by
 obtain ⟨h1,h2,h3,h4⟩:=w.ord i hi
 have:=R.inR i hi
 refine ⟨?_,?_,h3,by omega⟩
 ·rw [h1]; exact this.1
 ·rw [h2]; exact this.2.1
theorem free_bound {m:LoomMill} {l:List LoomOrder} (g:Good m l) {x:LoomRun} (hx:inB m l x) (o:Int):x.From + 1 ≤ freeR m l x o∧freeR m l x o ≤ x.From + 120:=by
 have:=endB g hx
 have:=g.c
 unfold freeR
 split <;> omega
theorem max_is (a b:Int):max64 a b=max a b:=by unfold max64; split <;> omega
theorem day1_bound {m:LoomMill} {l:List LoomOrder} (g:Good m l) {r0 r:List LoomRun} {b:Int} (R:Runs m l r0) (w:W r0 r b) (hb:b ≤ 1000000) {i:Nat} (hi:i < r0.length) {last:Option Nat} (hl:∀ j,last=some j→j < r0.length):(rn r i).From ≤ day1 m l last r i∧day1 m l last r i ≤ b + 120:=by
 have:=(w.ord i hi).2.2
 unfold day1
 cases last with
 | none=>simp only; omega
 | some j=>
  have hj:=hl j rfl
  have h1:=free_bound g (w.inB R hb hj) (rn r i).Order
  have h2:=(w.ord j hj).2.2
  simp only [max_is]
  omega
theorem push_bound {m : LoomMill} {l : List LoomOrder} (g : Good m l) {st : LoomStop} (hs : 0 ≤ st.Days.Low ∧ st.Days.Low ≤ st.Days.High ∧ st.Days.High ≤ 300) {r0 r : List LoomRun} {b : Int} (R : Runs m l r0) (w : W r0 r b) (h3 : 301 ≤ b) (hb : b ≤ 1000000) {i : Nat} (hi : i < r0.length) {last : Option Nat} (hl : ∀ j, last = some j → j < r0.length) :
  0 ≤ pushF m l st last r i∧pushF m l st last r i ≤ b + 120:=by
 have:=day1_bound g R w hb hi hl
 have:=(w.ord i hi).2.2
 unfold pushF
 split <;> omega
theorem W.step {m : LoomMill} {l : List LoomOrder} (g : Good m l) {st : LoomStop} (hs : 0 ≤ st.Days.Low ∧ st.Days.Low ≤ st.Days.High ∧ st.Days.High ≤ 300) {r0 r : List LoomRun} {b : Int} (R : Runs m l r0) (w : W r0 r b) (h3 : 301 ≤ b) (hb : b ≤ 1000000) {i : Nat} (hi : i < r0.length) {last : Option Nat} (hl : ∀ j, last = some j → j < r0.length) :
  W r0 (r.set i { rn r i with From:=pushF m l st last r i }) (b + 120):=by
 have hp:=push_bound g hs R w h3 hb hi hl
 refine ⟨by rw [List.length_set]; exact w.len,fun j hj=>?_⟩
 rw [rn_set (by rw [w.len]; exact hi)]
 by_cases h:j=i
 ·subst h
  rw [if_pos rfl]
  have:=w.ord j hj
  exact ⟨this.1,this.2.1,hp.1,hp.2⟩
 ·rw [if_neg h]
  have:=w.ord j hj
  exact ⟨this.1,this.2.1,this.2.2.1,by omega⟩
def lastI : Option Nat → Int
 | none=>-1
 | some j=>j
theorem W.start {m:LoomMill} {l:List LoomOrder} {r:List LoomRun} (R:Runs m l r):W r r 301:=⟨rfl,fun i hi=>⟨rfl,rfl,by have:=(R.inR i hi).2.2; omega,by have:=(R.inR i hi).2.2; omega⟩⟩
theorem f67_is {r:List LoomRun} (h:r.length ≤ 1000):f35 r=some r:=by
 unfold f35
 exact Yes.eq (Yes.apnd (by simp; omega) (by simp; omega) (by simp))
noncomputable def lates (l:List LoomOrder) (r:List LoomRun):List Int:=coll (fun i=>decide (endR l (rn r i) > (od l (rn r i).Order).Late)) (fun i=>(rn r i).Order) r.length
theorem s72' {r:List LoomRun} (h:r.length ≤ 1000):f41 r (fun a0=>f39 a0)=some (r.any fun x=>!btw 0 300 x.From):=by
 refine s72 r _ _ (by omega) fun a _=>?_
 unfold f39
 rw [s71 _ (by simp)]
 simp
theorem any_far {r0 r:List LoomRun} {b:Int} (w:W r0 r b):(r.any fun x=>!btw 0 300 x.From)=decide (∃ i,i < r.length∧(rn r i).From > 300):=by
 rw [Bool.eq_iff_iff,List.any_eq_true,decide_eq_true_iff]
 constructor
 ·rintro ⟨x, hx, h⟩
  obtain ⟨i,hi,rfl⟩:=List.mem_iff_getElem.1 hx
  refine ⟨i,hi,?_⟩
  have:=(w.ord i (by rw [← w.len]; exact hi)).2.2
  have e:rn r i=r[i]:=by unfold rn; simp [hi]
  rw [e] at this ⊢
  simp [btw] at h
  omega
 ·rintro ⟨i, hi, h⟩
  exact ⟨rn r i,rn_mem hi,by simp [btw]; omega⟩
noncomputable def pushV (l:List LoomOrder) (r:List LoomRun):List LoomRun × List Int × Int:=if ∃ i,i < r.length∧(rn r i).From > 300 then ([],[],8) else (r,lates l r,0)
theorem s34 {m:LoomMill} {l:List LoomOrder} {r:List LoomRun} {st:LoomStop} {A:List Nat} (he:stillE m l r st=0) (hf:f36 r st.Loom=some (A.map fun (n:Nat)=>(n:Int))) (hA:∀ n,n ∈ A ↔ n < r.length∧(rn r n).Loom=st.Loom) (hA7:A.length ≤ 7):f15 m l r st=some (pushV l (pushL m l st none A r))∧W r (pushL m l st none A r) 2000:=by
 obtain ⟨g,R,hlo,hs⟩:=still_ok he
 have hr:=R.r7
 suffices h:Yes (f15 m l r st) fun x=>x=pushV l (pushL m l st none A r)∧W r (pushL m l st none A r) 2000 by
  obtain ⟨x,h1,rfl,h2⟩:=h; exact ⟨h1,h2⟩
 unfold f15
 rw [s65 (by omega),if_pos he,he]
 refine Yes.bind (Yes.some (Yes.jn (Yes.cond (fun h=>by simp at h) (fun _=>?_))))
 rw [f67_is (by omega)]
 refine Yes.bind (Yes.some (Yes.bind (Yes.bind (Yes.of hf ?_))))
 have hlen:(A.map fun (n:Nat)=>(n:Int)).length=A.length:=by simp
 refine Yes.lp (fun s => ∃ k : Nat, s.2.2 = k ∧ k ≤ A.length ∧ ∃ last : Option Nat, s.2.1 = lastI last ∧ (∀ j, last = some j → j < r.length) ∧ pushL m l st last (A.drop k) s.1 = pushL m l st none A r ∧ W r s.1 (301 + 120 * k)) (fun s => A.length - s.2.2.toNat)
  ⟨0,rfl,by omega,none,rfl,(fun j h=>by cases h),rfl,W.start R⟩ (by simp; omega) ?_
 rintro ⟨r1,s12,s37⟩ K ⟨k,hk,hkA,last,h12,hl,hpu,w⟩ hK
 simp only at hk h12 hpu w hK
 subst hk; subst h12
 have w2:=w.len
 refine Yes.cond (fun h=>?_) (fun h=>Yes.some ?_)
 ·have hkA : k < A.length := by simp at h; omega
  have m0:=(hA _).1 (List.getElem_mem hkA)
  have hb:(301 + 120 * (k:Int)) ≤ 1000000:=by omega
  have hx:=w.inB R hb m0.1
  have e1:idx (A.map fun (n:Nat)=>(n:Int)) (k:Int)=some (A[k]:Int):=by rw [idx_at (by omega)]; simp
  rw [List.drop_eq_getElem_cons hkA,pushL] at hpu
  generalize hi:A[k]=i at *
  have hir:i < r1.length:=by omega
  refine Yes.bind ?_
  rw [e1,Option.bind_some,idx_rn hir,Option.bind_some]
  have hd:=day1_bound g R w hb m0.1 hl
  refine Yes.bindv (r1.set i { rn r1 i with From:=day1 m l last r1 i }) ?_ ?_
  ·cases last with
   | none=>
    have:epok r1 (lastI none)=some false:=rfl
    rw [this]
    show some r1=_
    have:({ rn r1 i with From:=day1 m l none r1 i }:LoomRun)=rn r1 i:=rfl
    rw [this,set_rn hir]
   | some j=>
    have hj:=hl j rfl
    have:epok r1 (lastI (some j))=some true:=by
     show epok r1 (j:Int)=some true
     unfold epok
     rw [if_neg (by omega),idx_rn (by omega)]; rfl
    rw [this]
    simp only [Option.bind_some,cond_true,lastI,idx_rn (show j < r1.length by omega),s69b g (w.inB R hb hj) hx.1.1 hx.1.2,Int.toNat_natCast]
    rfl
  ·have hx1 : inB m l { rn r1 i with From := day1 m l last r1 i } := ⟨hx.1, hx.2.1, by have := hx.2.2; show 0 ≤ day1 m l last r1 i; omega, by show day1 m l last r1 i ≤ 1000000; omega⟩
   have e2:idx (r1.set i { rn r1 i with From:=day1 m l last r1 i }) (i:Int)=some { rn r1 i with From:=day1 m l last r1 i }:=by
    rw [idx_rn (by rw [List.length_set]; exact hir),rn_set hir,if_pos rfl]
   refine Yes.bindv (r1.set i { rn r1 i with From:=pushF m l st last r1 i }) ?_ (Yes.some (hK _ ⟨k + 1,by rw [w64_succ (by omega)],by omega,some i,rfl,(fun j h=>by cases h; exact m0.1),hpu,?_⟩ ?_))
   ·simp only [e2, Option.bind_some, s66 g st hx1, Int.toNat_natCast]
    unfold pushF
    by_cases hm:meets l st { rn r1 i with From:=day1 m l last r1 i }
    ·rw [decide_eq_true hm,if_pos hm,cond_true,w64_id (by omega) (by omega),List.set_set]
    ·rw [decide_eq_false hm,if_neg hm,cond_false]
   ·have := W.step g hs R w (by omega) hb m0.1 hl
    have e:(301 + 120 * ((k + 1:Nat):Int))=301 + 120 * (k:Int) + 120:=by omega
    rw [e]; exact this
   ·simp only [w64_succ (show k < 4611686018427387904 by omega)]; simp; omega
 ·have hkA : k = A.length := by simp at h; omega
  rw [hkA,List.drop_length,pushL] at hpu
  rw [← hpu]
  have wr:W r r1 2000:=⟨w2,fun i hi=>by have:=w.ord i hi; exact ⟨this.1,this.2.1,this.2.2.1,by omega⟩⟩
  refine Yes.jn ?_
  rw [s72' (by omega),any_far w,Option.bind_some]
  unfold pushV
  refine Yes.cond (fun hc=>?_) (fun hc=>?_)
  ·rw [if_pos (of_decide_eq_true hc)]
   exact Yes.some ⟨rfl,wr⟩
  ·rw [if_neg (of_decide_eq_false hc)]
   refine Yes.bind ?_
   refine coll_loop r1.length (by omega) (fun i=>decide (endR l (rn r1 i) > (od l (rn r1 i).Order).Late)) (fun i=>(rn r1 i).Order) (fun k i s hi hsl=>?_) (fun k=>?_)
   ·have h1 : decide ((i : Int) < (r1.length : Int)) = true := by simp; omega
    refine (cond_tt h1).trans ?_
    have hx:=wr.inB R (by omega) (show i < r.length by omega)
    simp only [idx_rn hi,Option.bind_some,s73b g hx,idx_od hx.1.1 hx.1.2,apnd1 rfl (show s.length ≤ 1000 by omega)]
    cases decide (endR l (rn r1 i) > (od l (rn r1 i).Order).Late) <;> rfl
   ·have h1 : decide ((r1.length : Int) < (r1.length : Int)) = false := by simp
    exact Yes.cond (fun h=>by rw [h1] at h; cases h) (fun _=>Yes.some (Yes.some ⟨rfl,wr⟩))
def gap (m:LoomMill) (l:List LoomOrder) (i j:Nat):Int:=if (od l i).Chain=(od l j).Chain then 0 else m.Change
theorem gap_nn {m:LoomMill} {l:List LoomOrder} (hc:0 ≤ m.Change) (i j:Nat):0 ≤ gap m l i j:=by unfold gap; split <;> omega
theorem gap_tri {m:LoomMill} {l:List LoomOrder} (hc:0 ≤ m.Change) (i j k:Nat):gap m l i k ≤ gap m l i j + gap m l j k:=by
 unfold gap
 by_cases h1:(od l i).Chain=(od l j).Chain <;> by_cases h2:(od l j).Chain=(od l k).Chain <;> by_cases h3:(od l i).Chain=(od l k).Chain <;> simp [h1,h2,h3] <;> first | omega | (exfalso; simp_all)
theorem exl_max (n:Nat) (S:Nat→Prop) (hS:∀ i,S i→i < n) (F:Nat→Int) (h:∃ i,S i):∃ i,S i∧∀ j,S j→F j ≤ F i:=by
 induction n generalizing S with
 | zero=>obtain ⟨i,hi⟩:=h; exact absurd (hS i hi) (Nat.not_lt_zero _)
 | succ n ih=>
  by_cases hT:∃ i,S i∧i < n
  ·obtain ⟨i, ⟨hi, hin⟩, hm⟩ := ih (fun i => S i ∧ i < n) (fun i hi => hi.2) hT
   by_cases hn:S n∧F i < F n
   ·refine ⟨n, hn.1, fun j hj => ?_⟩
    rcases Nat.lt_succ_iff_lt_or_eq.1 (hS j hj) with h | rfl
    ·have:=hm j ⟨hj,h⟩; omega
    ·omega
   ·refine ⟨i, hi, fun j hj => ?_⟩
    rcases Nat.lt_succ_iff_lt_or_eq.1 (hS j hj) with h | rfl
    ·exact hm j ⟨hj,h⟩
    ·have : ¬ F i < F j := fun h => hn ⟨hj, h⟩
     omega
  ·obtain ⟨i, hi⟩ := h
   have hin:∀ j,S j→j=n:=fun j hj=>by
    have:=hS j hj
    by_cases hj2:j < n
    ·exact absurd ⟨j,hj,hj2⟩ hT
    ·omega
   exact ⟨i,hi,fun j hj=>by rw [hin j hj,hin i hi]; omega⟩
structure Fit1 (m : LoomMill) (l : List LoomOrder) (A : Nat → Nat → Int → Prop) (i k : Nat) (f : Int) : Prop where
 il:i < l.length
 kw:k < m.Widths.length
 a:A i k f
 w:(od l i).Width ≤ wd m k
 e:(od l i).Early ≤ f
 t:f + (od l i).Woven ≤ (od l i).Late
structure Fits (m : LoomMill) (l : List LoomOrder) (S : Nat → Prop) (A : Nat → Nat → Int → Prop) (K : Nat → Nat) (F : Nat → Int) : Prop where
 one:∀ i,S i→Fit1 m l A i (K i) (F i)
 sep:∀ i j,S i→S j→i ≠ j→K i=K j→F i ≤ F j→F i + (od l i).Woven + gap m l i j ≤ F j
structure Base (m : LoomMill) (l : List LoomOrder) : Prop where
 c:0 ≤ m.Change
 w:∀ i,i < l.length→1 ≤ (od l i).Woven
 e:∀ i,i < l.length→0 ≤ (od l i).Early
 h:∀ i,i < l.length→0 ≤ (od l i).Chain
 t:∀ i,i < l.length→(od l i).Late ≤ 300
theorem Fit1.mono {m:LoomMill} {l:List LoomOrder} {A B:Nat→Nat→Int→Prop} {i k:Nat} {f:Int} (h:Fit1 m l A i k f) (hb:A i k f→B i k f):Fit1 m l B i k f:=⟨h.il,h.kw,hb h.a,h.w,h.e,h.t⟩
theorem Fits.mono {m:LoomMill} {l:List LoomOrder} {S T:Nat→Prop} {A B:Nat→Nat→Int→Prop} {K:Nat→Nat} {F:Nat→Int} (h:Fits m l S A K F) (hs:∀ i,T i→S i) (hb:∀ i,T i→A i (K i) (F i)→B i (K i) (F i)):Fits m l T B K F:=
 ⟨fun i hi=>(h.one i (hs i hi)).mono (hb i hi),fun i j hi hj=>h.sep i j (hs i hi) (hs j hj)⟩
theorem Fits.congr {m:LoomMill} {l:List LoomOrder} {S:Nat→Prop} {A:Nat→Nat→Int→Prop} {K K':Nat→Nat} {F F':Nat→Int} (h:Fits m l S A K F) (hk:∀ i,S i→K' i=K i) (hf:∀ i,S i→F' i=F i):Fits m l S A K' F':=
 ⟨fun i hi=>by rw [hk i hi,hf i hi]; exact h.one i hi,fun i j hi hj=>by rw [hk i hi,hk j hj,hf i hi,hf j hj]; exact h.sep i j hi hj⟩

structure Beg (m : LoomMill) (l : List LoomOrder) (A : Nat → Nat → Int → Prop) (i k : Nat) (from' b : Int) : Prop where
 le:∀ f,Fit1 m l A i k f→from' ≤ f→b ≤ f
 ok:b < 1048576→Fit1 m l A i k b∧from' ≤ b
structure Rdy (m : LoomMill) (l : List LoomOrder) (A : Nat → Nat → Int → Prop) (k : Nat) (S : Nat → Prop) (t : Nat) (v : Int) : Prop where
 le:∀ F,Fits m l S A (fun _=>k) F→S t→(∀ j,S j→F j ≤ F t)→v ≤ F t + (od l t).Woven
 ok:v < 1048576→∃ F,Fits m l S A (fun _=>k) F∧S t∧(∀ j,S j→F j ≤ F t)∧F t + (od l t).Woven=v
 hi:v ≤ 1048576
theorem rdy_one {m : LoomMill} {l : List LoomOrder} {A : Nat → Nat → Int → Prop} {k t : Nat} {S : Nat → Prop} {b : Int} (B : Base m l) (hS : ∀ j, S j ↔ j = t) (hb : Beg m l A t k 0 b) :
  Rdy m l A k S t (if b < 1048576 then b + (od l t).Woven else 1048576):=by
 refine ⟨fun F hF ht _=>?_,fun hv=>?_,?_⟩
 ·have h1 := hF.one t ht
  have h2:=B.e t h1.il
  have h3:=B.t t h1.il
  have h5:=B.w t h1.il
  have h4:=hb.le _ h1 (by have:=h1.e; omega)
  have h6:=h1.t
  split <;> omega
 ·have hb':b < 1048576:=by
   by_cases h:b < 1048576
   ·exact h
   ·rw [if_neg h] at hv; omega
  rw [if_pos hb']
  obtain ⟨h1,h2⟩:=hb.ok hb'
  refine ⟨fun _=>b,⟨fun i hi=>?_,fun i j hi hj hij=>?_⟩,(hS t).2 rfl,fun _ _=>Int.le_refl _,rfl⟩
  ·rw [(hS i).1 hi]; exact h1
  ·exact absurd (((hS i).1 hi).trans ((hS j).1 hj).symm) hij
 ·split
  ·rename_i h
   obtain ⟨h1,h2⟩:=hb.ok h
   have:=h1.t
   have:=B.t t h1.il
   omega
  ·omega
structure Least (P : Nat → Prop) (V : Nat → Int) (d : Int) : Prop where
 le:∀ j,P j→d ≤ V j
 ok:d < 1048576→∃ j,P j∧d=V j
theorem rdy_step {m : LoomMill} {l : List LoomOrder} {A : Nat → Nat → Int → Prop} {k t : Nat} {S : Nat → Prop} {R bb : Nat → Int} {d : Int} (B : Base m l)
  (ht:S t) (hne:∃ j,S j∧j ≠ t)
  (hR:∀ j,S j→j ≠ t→Rdy m l A k (fun i=>S i∧i ≠ t) j (R j))
  (hb:∀ j,S j→j ≠ t→R j < 1048576→Beg m l A t k (R j + gap m l j t) (bb j))
  (hd:Least (fun j=>S j∧j ≠ t∧R j < 1048576) bb d) :
  Rdy m l A k S t (if d < 1048576 then d + (od l t).Woven else 1048576):=by
 refine ⟨fun F hF _ hm=>?_,fun hv=>?_,?_⟩
 ·have h1 := hF.one t ht
  have h2:=B.e t h1.il
  have h3:=B.t t h1.il
  have h5:=B.w t h1.il
  have h6:=h1.t
  obtain ⟨j,⟨hj,hjt⟩,hjm⟩:=exl_max l.length (fun i=>S i∧i ≠ t) (fun i hi=>(hF.one i hi.1).il) F (let ⟨j,a,b⟩:=hne; ⟨j,a,b⟩)
  have hj1:=hF.one j hj
  have hjt2:=hj1.t
  have hj3:=B.t j hj1.il
  have h7:=(hR j hj hjt).le F (hF.mono (fun i hi=>hi.1) fun _ _ h=>h) ⟨hj,hjt⟩ hjm
  have h8:=hb j hj hjt (by omega)
  have h9:=hF.sep j t hj ht hjt rfl (hm j hj)
  have h10:=h8.le (F t) h1 (by omega)
  have h11:=hd.le j ⟨hj,hjt,by omega⟩
  split <;> omega
 ·have hd':d < 1048576:=by
   by_cases h:d < 1048576
   ·exact h
   ·rw [if_neg h] at hv; omega
  rw [if_pos hd']
  obtain ⟨j,⟨hj,hjt,hjr⟩,hdj⟩:=hd.ok hd'
  obtain ⟨F,hF,_,hm,hv⟩:=(hR j hj hjt).ok hjr
  obtain ⟨h1,h2⟩:=(hb j hj hjt hjr).ok (by omega)
  rw [← hdj] at h1 h2
  have hwj:=B.w j (hF.one j ⟨hj,hjt⟩).il
  have hg:=gap_nn (l:=l) B.c
  have hlast:∀ i,S i→i ≠ t→F i + (od l i).Woven + gap m l i t ≤ d∧F i < d:=fun i hi hit=>by
   by_cases hij:i=j
   ·subst hij; have:=hg i t; omega
   ·have h3 := hF.sep i j ⟨hi, hit⟩ ⟨hj, hjt⟩ hij rfl (hm i ⟨hi, hit⟩)
    have h4:=gap_tri (l:=l) B.c i j t
    have h5:=hg i j
    have h6:=hg j t
    have:=B.w i (hF.one i ⟨hi,hit⟩).il
    omega
  refine ⟨fun i=>if i=t then d else F i,⟨fun i hi=>?_,fun i i' hi hi' hne _ hle=>?_⟩,ht,fun i hi=>?_,?_⟩
  ·by_cases h : i = t
   ·simp only [h,if_true]; exact h1
   ·simp only [h,if_false]; exact hF.one i ⟨hi,h⟩
  ·by_cases h : i = t
   ·have h' : i' ≠ t := fun h' => hne (h.trans h'.symm)
    simp only [h,h',if_true,if_false] at hle ⊢
    have:=(hlast i' hi' h').2
    omega
   ·by_cases h' : i' = t
    ·simp only [h, h', if_true, if_false] at hle ⊢
     exact (hlast i hi h).1
    ·simp only [h, h', if_false] at hle ⊢
     exact hF.sep i i' ⟨hi,h⟩ ⟨hi',h'⟩ hne rfl hle
  ·by_cases h : i = t
   ·simp [h]
   ·simp only [h,if_true,if_false]; have:=(hlast i hi h).2; omega
  ·simp
 ·split
  ·rename_i h
   obtain ⟨j,⟨hj,hjt,hjr⟩,hdj⟩:=hd.ok h
   obtain ⟨h1,h2⟩:=(hb j hj hjt hjr).ok (by omega)
   have:=h1.t
   have:=B.t t h1.il
   omega
  ·omega
theorem can_iff {m : LoomMill} {l : List LoomOrder} {A : Nat → Nat → Int → Prop} {k : Nat} {S : Nat → Prop} {R : Nat → Int} (B : Base m l) (hS : ∀ i, S i → i < l.length) (hne : ∃ i, S i)
  (hR:∀ t,S t→Rdy m l A k S t (R t)):(∃ t,S t∧R t < 1048576) ↔ ∃ F,Fits m l S A (fun _=>k) F:=by
 constructor
 ·rintro ⟨t, ht, hr⟩
  obtain ⟨F,hF,_⟩:=(hR t ht).ok hr
  exact ⟨F,hF⟩
 ·rintro ⟨F, hF⟩
  obtain ⟨t,ht,hm⟩:=exl_max l.length S hS F hne
  have h1:=(hR t ht).le F hF ht hm
  have h2:=(hF.one t ht).t
  have:=B.t t (hF.one t ht).il
  exact ⟨t,ht,by omega⟩

theorem looms_step {m : LoomMill} {l : List LoomOrder} {A : Nat → Nat → Int → Prop} {Q : Nat → Prop} {k : Nat} {S : Nat → Prop} (hk : ¬ Q k) :
  (∃ K F, Fits m l S (fun i k' f => (Q k' ∨ k' = k) ∧ A i k' f) K F) ↔
   ∃ P:Nat→Prop,(∀ i,P i→S i)∧(∃ F,Fits m l P A (fun _=>k) F)∧∃ K F,Fits m l (fun i=>S i∧¬ P i) (fun i k' f=>Q k'∧A i k' f) K F:=by
 constructor
 ·rintro ⟨K, F, h⟩
  refine ⟨fun i=>S i∧K i=k,fun i hi=>hi.1,⟨F,?_⟩,K,F,?_⟩
  ·refine Fits.congr (K:=K) (F:=F) (h.mono (fun i hi=>hi.1) fun i hi ha=>ha.2) (fun i hi=>hi.2.symm) (fun _ _=>rfl)
  ·refine h.mono (fun i hi => hi.1) fun i hi ha => ⟨?_, ha.2⟩
   rcases ha.1 with h | h
   ·exact h
   ·exact absurd ⟨hi.1,h⟩ hi.2
 ·rintro ⟨P, hP, ⟨F1, h1⟩, K, F2, h2⟩
  refine ⟨fun i=>if P i then k else K i,fun i=>if P i then F1 i else F2 i,fun i hi=>?_,fun i j hi hj hij hk' hle=>?_⟩
  ·by_cases hp : P i
   ·simp only [hp,if_true]; exact (h1.one i hp).mono fun a=>⟨.inr rfl,a⟩
   ·simp only [hp,if_false]; exact (h2.one i ⟨hi,hp⟩).mono fun a=>⟨.inl a.1,a.2⟩
  ·by_cases hp : P i <;> by_cases hq : P j
   ·simp only [hp,hq,if_true] at hk' hle ⊢; exact h1.sep i j hp hq hij rfl hle
   ·simp only [hp, hq, if_true, if_false] at hk'
    exact absurd ((h2.one j ⟨hj,hq⟩).a.1) (by rw [← hk']; exact hk)
   ·simp only [hp, hq, if_true, if_false] at hk'
    exact absurd ((h2.one i ⟨hi,hp⟩).a.1) (by rw [hk']; exact hk)
   ·simp only [hp,hq,if_false] at hk' hle ⊢; exact h2.sep i j ⟨hi,hp⟩ ⟨hj,hq⟩ hij hk' hle

theorem pow62:(2:Nat) ^ 62=4611686018427387904:=by decide
theorem ofInt_small {a:Nat} (ha:a < 2 ^ 62):(BitVec.ofInt 64 (a:Int)).toNat=a:=by
 rw [BitVec.ofInt_natCast,BitVec.toNat_ofNat]
 exact Nat.mod_eq_of_lt (by rw [pow62] at ha; omega)
theorem and64 {a b:Nat} (ha:a < 2 ^ 62) (hb:b < 2 ^ 62):bit64 .and a b=((a &&& b:Nat):Int):=by
 have hx:a &&& b < 2 ^ 62:=Nat.and_lt_two_pow a hb
 unfold bit64
 simp only [BitVec.toNat_and,ofInt_small ha,ofInt_small hb]
 rw [pow62] at hx
 exact w64_id (by omega) (by omega)
def dif (a b:Nat):Nat:=a &&& (2 ^ 64 - 1 - b)
theorem dif_le (a b:Nat):dif a b ≤ a:=Nat.and_le_left
theorem andn64 {a b:Nat} (ha:a < 2 ^ 62) (hb:b < 2 ^ 62):bit64 .andNot a b=((dif a b:Nat):Int):=by
 have hx:dif a b < 2 ^ 62:=Nat.lt_of_le_of_lt (dif_le a b) ha
 unfold bit64
 simp only [BitVec.toNat_and,BitVec.toNat_not,ofInt_small ha,ofInt_small hb]
 change w64 ((dif a b:Nat):Int)=_
 rw [pow62] at hx
 exact w64_id (by omega) (by omega)
theorem dif_bit {a b:Nat} (ha:a < 2 ^ 62) (hb:b < 2 ^ 62) (i:Nat):(dif a b).testBit i=(a.testBit i && !b.testBit i):=by
 unfold dif
 rw [Nat.testBit_and]
 by_cases hi:i < 64
 ·have:(2 ^ 64 - 1 - b).testBit i=!b.testBit i:=by
   have h:=Nat.testBit_two_pow_sub_succ (n:=64) (x:=b) (by rw [pow62] at hb; omega) i
   rw [show 2 ^ 64 - (b + 1)=2 ^ 64 - 1 - b by omega] at h
   simp [h,hi]
  rw [this]
 ·have : a.testBit i = false := Nat.testBit_lt_two_pow (Nat.lt_of_lt_of_le ha (Nat.pow_le_pow_right (by decide) (by omega)))
  simp [this]
theorem shl_bit {h:Nat} (hh:h < 62):shl64 1 (h:Int)=some ((2 ^ h:Nat):Int):=by
 have hx:2 ^ h < 2 ^ 62:=Nat.pow_lt_pow_right (by decide) hh
 rw [pow62] at hx
 unfold shl64
 rw [if_neg (by omega),show min (h:Int).toNat 64=h by simp; omega,Int.one_mul]
 rw [show ((2:Int) ^ h)=((2 ^ h:Nat):Int) by simp]
 generalize 2 ^ h=q at hx ⊢
 rw [w64_id (by omega) (by omega)]
theorem shr_any {a h:Nat} (ha:a < 2 ^ 62):shr64 (a:Int) (h:Int)=some ((a >>> h:Nat):Int):=by
 unfold shr64
 rw [if_neg (by omega)]
 congr 1
 by_cases hh:h < 64
 ·rw [show min (h : Int).toNat 64 = h by simp; omega]
  rw [show ((2:Int) ^ h)=((2 ^ h:Nat):Int) by simp,Nat.shiftRight_eq_div_pow]
  generalize 2 ^ h=q
  rw [Int.fdiv_eq_ediv_of_nonneg _ (by omega)]
  exact (Int.natCast_ediv a q).symm
 ·rw [show min (h : Int).toNat 64 = 64 by simp; omega, Nat.shiftRight_eq_div_pow]
  have h1:a / 2 ^ h=0:=Nat.div_eq_of_lt (Nat.lt_of_lt_of_le ha (Nat.pow_le_pow_right (by decide) (by omega)))
  rw [h1,Int.fdiv_eq_ediv_of_nonneg _ (by decide)]
  rw [pow62] at ha
  omega
theorem bit_is {a i:Nat}:((a >>> i) &&& 1 == 0)=!a.testBit i:=by
 rw [Nat.testBit]
 simp only [bne,Nat.and_comm,Bool.not_not]
end Go.Proofs.YtomjodbnpgbjnaaGreat
