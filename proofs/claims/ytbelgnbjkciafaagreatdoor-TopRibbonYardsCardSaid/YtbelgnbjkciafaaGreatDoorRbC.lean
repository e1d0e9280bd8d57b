/- TopRibbonYards: logs. -/
import Derived.Test.YtbelgnbjkciafaaGreatDoorRbB
set_option maxRecDepth 8000
namespace Go.Proofs.YtbelgnbjkciafaaGreatDoor
open Go.RowKit
open Classical
theorem s71_lt {x y:Int} (h:x < y):f71 x y=some (-1):=by
 unfold f71 f99 jn
 simp [h,Int.not_lt.2 (Int.le_of_lt h)]
theorem s71_gt {x y:Int} (h:y < x):f71 x y=some 1:=by
 unfold f71 f99 jn
 simp [h,Int.not_lt.2 (Int.le_of_lt h)]
theorem s71_eq (x:Int):f71 x x=some 0:=by
 unfold f71 f99 jn
 simp
theorem s71_some (x y:Int):∃ z,f71 x y=some z:=by
 rcases Int.lt_trichotomy x y with h | h | h
 ·exact ⟨_,s71_lt h⟩
 ·exact ⟨0,by subst h; exact s71_eq x⟩
 ·exact ⟨_,s71_gt h⟩
theorem s70_m (z:Int):f70 [-1,z]=some (-1):=by kernel_rfl
theorem s70_p (z:Int):f70 [1,z]=some 1:=by kernel_rfl
theorem s34_lt {a b:BookCloth} (h:a.Day < b.Day):f34 a b=some (-1):=by
 obtain ⟨z,hz⟩:=s71_some a.Loom b.Loom
 refine Yes.eq ?_
 unfold f34
 exact qbind _ (s71_lt h) (qbind _ hz (qbind _ (s70_m z) (Yes.some rfl)))
theorem s34_gt {a b:BookCloth} (h:b.Day < a.Day):f34 a b=some 1:=by
 obtain ⟨z,hz⟩:=s71_some a.Loom b.Loom
 refine Yes.eq ?_
 unfold f34
 exact qbind _ (s71_gt h) (qbind _ hz (qbind _ (s70_p z) (Yes.some rfl)))
def LgOk (l:List BookCloth):Prop:=l.length ≤ 12∧l.Pairwise (fun a b=>a.Day < b.Day)∧∀ c ∈ l,OkC c
theorem YrOk.lg {l:List BookCloth} (h:YrOk l):LgOk l:=h
theorem recL_len (c:BookCloth):(recL c).length=8:=rfl
theorem LgOk.lt {l:List BookCloth} (h:LgOk l) {i j:Nat} (hij:i < j) (hj:j < l.length):(l[i]'(by omega)).Day < (l[j]'hj).Day:=List.pairwise_iff_getElem.1 h.2.1 i j (by omega) hj hij
theorem flat_len (l:List BookCloth):((l.map recL).flatten).length=8 * l.length:=by
 induction l with
 | nil=>rfl
 | cons c l ih=>simp only [List.map_cons,List.flatten_cons,List.length_append,ih,recL_len,List.length_cons]; omega
theorem s17v {l:List BookCloth} (h:LgOk l):f17 l=some ((l.map recL).flatten,0,0):=by
 have h12:=h.1
 refine Yes.eq ?_
 unfold f17
 refine Yes.jn (qskip (decide_eq_false (by omega)) (Yes.jn ?_))
 refine Yes.upto l.length (by omega) (fun i zs=>zs=((l.take i).map recL).flatten) (by simp) (fun i zs k hi hI hk=>?_) (fun zs k hI=>?_)
 ·have hc := h.2.2 l[i] (List.getElem_mem hi)
  refine qtake (decide_eq_true (by omega)) (Yes.jn (qbind _ (qidx hi) (Yes.jn (qbind _ (s33v hc) (qskip rfl ?_)))))
  refine Yes.bind (Yes.mono (Q':=fun b=>b=false) ?_ fun b hb=>?_)
  ·refine Yes.cond (fun h0 => ?_) (fun _ => Yes.some rfl)
   have h0:=of_decide_eq_true h0
   rw [w64_id (by omega) (by omega),show ((i:Int) - 1)=((i - 1:Nat):Int) by omega]
   refine qbind _ (qidx (by omega)) (qbind _ (s34_lt (h.lt (by omega) hi)) (Yes.some rfl))
  ·subst hb
   refine qskip rfl (qbind _ (s35v _ hc) (qbind _ (show cut (recV l[i]).toList 0 ((8:Nat):Int)=some (recL l[i]) from rfl) (Yes.bind (Yes.apnd ?_ ?_ (hk _ ?_)))))
   ·subst hI
    rw [flat_len,recL_len,List.length_take]
    omega
   ·subst hI
    rw [flat_len,recL_len,List.length_take]
    omega
   ·subst hI
    rw [List.take_succ_eq_append_getElem hi,List.map_append,List.flatten_append]
    simp only [List.map_cons,List.map_nil,List.flatten_cons,List.flatten_nil,List.append_nil]
 ·subst hI
  refine qskip (decide_eq_false (by omega)) ?_
  rw [List.take_length]
  exact Yes.some rfl
theorem flat8 : ∀ (L : List (List UInt8)) (i : Nat), (∀ r ∈ L, r.length = 8) → (hi : i < L.length) → (L.flatten.take (8 * i + 8)).drop (8 * i) = L[i]
 | [],_,_,hi=>absurd hi (by simp)
 | r :: L,0,h,_=>by
  have h8:=h r (by simp)
  rw [List.flatten_cons,List.take_append_of_le_length (by omega),List.take_of_length_le (by omega)]
  rfl
 | r :: L,i + 1,h,hi=>by
  have h8:=h r (by simp)
  have ih:=flat8 L i (fun x hx=>h x (by simp [hx])) (by simpa using hi)
  rw [List.flatten_cons,show 8 * (i + 1) + 8=r.length + (8 * i + 8) by omega,List.take_append,List.take_of_length_le (by omega),show r.length + (8 * i + 8) - r.length=8 * i + 8 by omega,show 8 * (i + 1)=r.length + 8 * i by omega,List.drop_append,List.drop_of_length_le (by omega),show r.length + 8 * i - r.length=8 * i by omega,List.nil_append,ih]
  rfl
theorem flat8_len : ∀ (L : List (List UInt8)), (∀ r ∈ L, r.length = 8) → L.flatten.length = 8 * L.length
 | [],_=>rfl
 | r :: L,h=>by
  have h8:=h r (by simp)
  have ih:=flat8_len L (fun x hx=>h x (by simp [hx]))
  rw [List.flatten_cons,List.length_append,ih,List.length_cons]; omega
theorem s133v {σ : Type} {L : List (List UInt8)} (h8 : ∀ r ∈ L, r.length = 8) (hL : L.length ≤ 1000) {cons : Cons σ (List UInt8)} {s : σ} (I : Nat → σ → Prop) (h0 : I 0 s)
  (step:∀ i s (hi:i < L.length),I i s→Yes (cons s L[i]) fun r=>r.1=true∧I (i + 1) r.2):Yes (f133 L.flatten 8 σ cons s) fun s=>I L.length s:=by
 have hl:=flat8_len L h8
 unfold f133
 refine Yes.lp (fun st=>∃ i:Nat,st.2=((8 * i:Nat):Int)∧i ≤ L.length∧I i st.1) (fun st=>8 * L.length - st.2.toNat) ⟨0,rfl,Nat.zero_le _,h0⟩ (by simp; omega) ?_
 rintro ⟨st,j⟩ k ⟨i,hj,hi,hI⟩ hk
 simp only at hj hI
 subst hj
 refine Yes.jn ?_
 by_cases hlt:i < L.length
 ·refine qtake (decide_eq_true (by omega)) (Yes.jn ?_)
  have c1:cut L.flatten ((8 * i:Nat):Int) (L.flatten.length:Int)=some (L.flatten.drop (8 * i)):=by
   unfold cut
   rw [if_pos ⟨by omega,by omega,by omega⟩,Int.toNat_natCast,Int.toNat_natCast,List.take_length]
  have hm:min64 8 ((L.flatten.drop (8 * i)).length:Int)=8:=by
   unfold min64
   rw [List.length_drop,if_neg (by omega)]
  have c2:cut L.flatten ((8 * i:Nat):Int) (w64 (((8 * i:Nat):Int) + 8))=some L[i]:=by
   rw [w64_id (by omega) (by omega)]
   unfold cut
   rw [if_pos ⟨by omega,by omega,by omega⟩]
   have:=flat8 L i h8 hlt
   rw [← this]
   congr 1
  refine qbind _ c1 ?_
  rw [hm]
  refine qbind _ c2 (Yes.bind ((step i st hlt hI).mono fun r hr=>?_))
  obtain ⟨b,st'⟩:=r
  obtain ⟨hb,hI'⟩:=hr
  simp only at hb hI'
  subst hb
  refine qskip rfl (hk _ ⟨i + 1,?_,hlt,hI'⟩ ?_)
  ·show w64 (((8 * i : Nat) : Int) + 8) = _
   rw [w64_id (by omega) (by omega)]; omega
  ·show 8 * L.length - (w64 (((8 * i : Nat) : Int) + 8)).toNat < 8 * L.length - (((8 * i : Nat) : Int)).toNat
   rw [w64_id (by omega) (by omega)]; omega
 ·obtain rfl : i = L.length := by omega
  exact qskip (decide_eq_false (by omega)) (Yes.some hI)
theorem s107v {σ : Type} {L : List (List UInt8)} (h8 : ∀ r ∈ L, r.length = 8) (hL : L.length ≤ 1000) {cons : Cons σ (Vector UInt8 8)} {s : σ} (I : Nat → σ → Prop) (h0 : I 0 s)
  (step:∀ i s (hi:i < L.length) (v:Vector UInt8 8),v.toList=L[i]→I i s→Yes (cons s v) fun r=>r.1=true∧I (i + 1) r.2):Yes (f107 L.flatten σ cons s) fun s=>I L.length s:=by
 unfold f107
 have h108:f108 L.flatten 8=some (fun σ cons s=>f133 L.flatten 8 σ cons s):=rfl
 rw [h108]
 simp only [Option.bind_some]
 refine (Yes.bind (Yes.mono (s133v h8 hL (fun i st=>st.1=0∧I i st.2) ⟨rfl,h0⟩ fun i st hi hI=>?_) fun r hr=>?_))
 ·obtain ⟨n, st⟩ := st
  obtain ⟨hn,hI⟩:=hI
  simp only at hn hI
  subst hn
  have h8i:=h8 L[i] (List.getElem_mem hi)
  have hv:vecN 8 L[i]=some ⟨(L[i].take 8).toArray,by simp [h8i]⟩:=by unfold vecN; rw [dif_pos ⟨by omega,by omega⟩]
  show Yes ((vecN 8 L[i]).bind _) _
  refine qbind _ hv (Yes.bind ((step i st hi _ ?_ hI).mono fun r hr=>?_))
  ·show (L[i].take 8) = L[i]
   rw [List.take_of_length_le (by omega)]
  ·obtain ⟨b, st'⟩ := r
   obtain ⟨hb,hI'⟩:=hr
   simp only at hb hI'
   subst hb
   exact qskip rfl (Yes.some ⟨rfl,rfl,hI'⟩)
 ·obtain ⟨n, st⟩ := r
  obtain ⟨hn,hI⟩:=hr
  simp only at hn hI
  subst hn
  exact qtake rfl (Yes.some hI)
end Go.Proofs.YtbelgnbjkciafaaGreatDoor
