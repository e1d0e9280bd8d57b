/- Plain laws: the whole table; what a course weaves. -/
import Derived.Test.YtkfdjkkbnfohjaaGreatDoorLawZB
set_option maxRecDepth 8000
namespace Go.Proofs.YtkfdjkkbnfohjaaGreatDoor
open Go.RowKit
open Classical

theorem T_nil {R:List Int}:T R []=List.replicate R.length 0:=by
 refine List.eq_replicate_iff.2 ⟨T_len,fun b hb=>?_⟩
 obtain ⟨k,hk,rfl⟩:=List.getElem_of_mem hb
 rw [T_at]; rfl
theorem g36 {H : Int} {R C : List Int} (hC : ∀ c ∈ C, 0 ≤ c) (hn : 1 ≤ R.length ∧ R.length ≤ 1000) (hCl : C.length ≤ 60) :
  Yes (f36 ⟨⟨⟨H,crd R⟩,H⟩,C⟩) (fun L=>L.length=C.length + 1∧∀ p (h:p < L.length),L[p]=T R (C.drop p)):=by
 unfold f36 f57
 have hcl:=crd_len R
 have hk:mks 8 (0:Int) ((crd R).length:Int)=some (T R []):=by
  unfold mks
  rw [if_pos ⟨by omega,by omega,by omega⟩,T_nil,hcl]
  congr 2
 refine qbind _ hk (Yes.bind (Yes.bind (Yes.mono (Q':=fun r:List Int × List (List Int)=>r.2.length=C.length + 1∧∀ q (h:q < r.2.length),r.2[q]=T R (C.drop (C.length - q))) ?_ fun r hr=>Yes.some ?_)))
 ·unfold f74
  rw [w64_id (n:=(C.length:Int) - 1) (by omega) (by omega)]
  refine Yes.lp (fun s => ∃ j : Nat, s.2 = (j : Int) - 1 ∧ j ≤ C.length ∧ s.1.1 = T R (C.drop j) ∧ s.1.2.length = C.length - j + 1 ∧ ∀ q (h : q < s.1.2.length), s.1.2[q] = T R (C.drop (C.length - q))) (fun s => (s.2 + 1).toNat)
   ⟨C.length,rfl,Nat.le_refl _,by simp,by simp,fun q h=>?_⟩ (by show ((C.length:Int) - 1 + 1).toNat < _; omega) ?_
  ·have h : q < 1 := h
   obtain rfl:q=0:=by omega
   simp
  rintro ⟨⟨now,out⟩,i⟩ k ⟨j,e1,e2,e3,e4,e5⟩ hk
  simp only at e1 e3 e4 e5
  subst e1
  refine Yes.jn (Yes.cond (fun hc=>?_) (fun hc=>Yes.some ?_))
  ·have hc : (j : Int) - 1 ≥ 0 := of_decide_eq_true hc
   obtain ⟨p,rfl⟩:∃ p,j=p + 1:=⟨j - 1,by omega⟩
   have hp:p < C.length:=by omega
   have ep:((p + 1:Nat):Int) - 1=(p:Int):=by omega
   rw [ep]
   have h43:f43 [1048576] ((crd R).length:Int)=some (List.replicate R.length 1048576):=by rw [hcl]; exact g43 hn.1 hn.2
   refine Yes.jn (qbind _ (qidx hp) (Yes.bind (qbind _ h43 (Yes.bind ((row_z (H:=H) hC hn hp e3).mono fun m hm=>Yes.bind (Yes.apnd (by rw [e4]; simp; omega) (by rw [e4]; simp; omega) (Yes.some (qskip rfl (hk _ ⟨p,?_,by omega,hm,?_,fun q h=>?_⟩ ?_)))))))))
   ·show w64 ((p:Int) - 1)=_; rw [w64_id (by omega) (by omega)]
   ·show (out ++ [m]).length=_; rw [List.length_append,e4]; simp; omega
   ·show (out ++ [m])[q] = _
    have h:q < (out ++ [m]).length:=h
    by_cases hq:q < out.length
    ·rw [List.getElem_append_left hq]; exact e5 q hq
    ·have : q = out.length := by rw [List.length_append] at h; simp at h; omega
     subst this
     rw [List.getElem_append_right (by omega)]
     simp only [Nat.sub_self,List.getElem_singleton]
     rw [hm,show C.length - out.length=p by omega]
   ·show (w64 ((p : Int) - 1) + 1).toNat < (((p + 1 : Nat) : Int) - 1 + 1).toNat
    rw [w64_id (by omega) (by omega)]; omega
  ·have hc : ¬ (j : Int) - 1 ≥ 0 := of_decide_eq_false hc
   exact ⟨by show out.length=_; omega,e5⟩
 ·obtain ⟨r1, r2⟩ := hr
  refine qbind _ (g59 (by omega)) (Yes.some ⟨by rw [List.length_reverse]; exact r1,fun p h=>?_⟩)
  have h:p < r.2.reverse.length:=h
  rw [List.length_reverse] at h
  rw [List.getElem_reverse,r2]
  congr 2
  omega
def wk (R : List Int) : Nat → List Nat → List Int
 | _,[]=>[]
 | a,s :: ss=>R.getD a 0 :: wk R ((a + s) % R.length) ss
def ep (n : Nat) : Nat → List Nat → Nat
 | a,[]=>a
 | a,s :: ss=>ep n ((a + s) % n) ss
def fs (ss:List Nat):Nat:=(ss.map fa).sum
theorem wk_snoc {R : List Int} : ∀ {ss : List Nat} {a s : Nat}, wk R a (ss ++ [s]) = wk R a ss ++ [R.getD (ep R.length a ss) 0]
 | [],_,_=>rfl
 | t :: ss,a,s=>by rw [List.cons_append,wk,wk,ep,wk_snoc]; rfl
theorem ep_snoc {n : Nat} : ∀ {ss : List Nat} {a s : Nat}, ep n a (ss ++ [s]) = (ep n a ss + s) % n
 | [],_,_=>rfl
 | t :: ss,a,s=>by rw [List.cons_append,ep,ep,ep_snoc]
theorem wk_len {R : List Int} : ∀ {ss : List Nat} {a : Nat}, (wk R a ss).length = ss.length
 | [],_=>rfl
 | t :: ss,a=>by rw [wk,List.length_cons,wk_len]; rfl
theorem ep_lt {n : Nat} (hn : 0 < n) : ∀ {ss : List Nat} {a : Nat}, a < n → ep n a ss < n
 | [],_,h=>h
 | t :: ss,a,_=>by rw [ep]; exact ep_lt hn (Nat.mod_lt _ hn)
theorem G_true {R : List Int} : ∀ (ss : List Nat) (a : Nat), (∀ s ∈ ss, s ≤ 2) → G R (wk R a ss) a ≤ fs ss
 | [],a,_=>by rw [wk,G]; omega
 | s :: ss,a,h=>by
  have ih:=G_true (R:=R) ss ((a + s) % R.length) fun t ht=>h t (List.mem_cons_of_mem _ ht)
  have hs:=h s (by simp)
  have hf:fs (s :: ss)=fa s + fs ss:=by simp [fs]
  rw [wk,G,if_pos rfl,hf]
  rcases (by omega:s=0 ∨ s=1 ∨ s=2) with rfl | rfl | rfl <;> omega
theorem g11 {H : Nat} (hH : 1 ≤ H ∧ H ≤ 12) {R : List Int} (hb : BOk H ⟨H, crd R⟩) {a : Nat} (ha : a < R.length) {ss : List Nat} (hs : ∀ s ∈ ss, s ≤ 2) (hl : ss.length ≤ 60) :
  f11 ⟨H,crd R⟩ (a:Int) (ss.map fun s:Nat=>(s:Int))=some (wk R a ss,((ep R.length a ss:Nat):Int),0):=by
 have h2:=hb.2.1
 have hcl:=crd_len R
 have h2:1 ≤ (crd R).length∧(crd R).length ≤ 10:=h2
 refine Yes.eq ?_
 unfold f11
 refine qbind _ (c111 hH hb) (Yes.jn (qskip rfl (qbind true (c112 _ _ _ (by simp) fun x hx=>?_) (qskip rfl (qskip (decide_eq_false (by rw [List.length_map]; omega)) (qbind true (c112 _ _ _ (by rw [List.length_map]; omega) fun x hx=>?_) (qskip rfl ?_)))))))
 ·rw [List.mem_singleton.1 hx]
  show 0 ≤ (a:Int)∧(a:Int) ≤ w64 (((crd R).length:Int) - 1)
  rw [w64_id (by omega) (by omega)]; omega
 ·obtain ⟨s, h, rfl⟩ := List.mem_map.1 hx
  have:=hs s h
  omega
 refine Yes.bind (Yes.mono (Q':=fun r=>r=(wk R a ss,((ep R.length a ss:Nat):Int))) ?_ fun r hr=>Yes.some (by rw [hr]))
 refine Yes.upto2 ss.length (by omega) (fun i rows b=>rows=wk R a (ss.take i)∧b=((ep R.length a (ss.take i):Nat):Int)) ⟨rfl,rfl⟩ (fun i rows b k hi hI hk=>?_) (fun rows b k hI=>?_)
 ·obtain ⟨i1, i2⟩ := hI
  have hil:i < (ss.map fun s:Nat=>(s:Int)).length:=by rw [List.length_map]; exact hi
  have hpos:=ep_lt (n:=R.length) (by omega) (ss:=ss.take i) ha
  have hrl:rows.length=i:=by rw [i1,wk_len]; simp; omega
  have hs2:=hs _ (List.getElem_mem hi)
  subst i2
  refine qtake (decide_eq_true (by rw [List.length_map]; omega)) (Yes.bind (qbind ((ss[i]:Nat):Int) (by rw [qidx hil]; simp) (qbind _ (lift_z hpos) (Yes.bind (Yes.apnd (by rw [hrl]; simp; omega) (by rw [hrl]; simp; omega) (qbind _ (after_z hpos (by omega) hs2) (Yes.some (hk _ _ ⟨?_,?_⟩))))))))
  ·rw [i1,take_succ hi,wk_snoc,List.getD_eq_getElem?_getD,List.getElem?_eq_getElem hpos]; rfl
  ·rw [take_succ hi,ep_snoc]
 ·obtain ⟨i1, i2⟩ := hI
  rw [List.take_length] at i1 i2
  exact qskip (decide_eq_false (by rw [List.length_map]; omega)) (Yes.some (by rw [i1,i2]))
end Go.Proofs.YtkfdjkkbnfohjaaGreatDoor
/- Plain laws: chain.Course. -/
set_option maxRecDepth 8000
namespace Go.Proofs.YtkfdjkkbnfohjaaGreatDoor
open Go.RowKit
open Classical

theorem g37 {xs:List Int} (h1:1 ≤ xs.length) (h2:xs.length ≤ 1000):Yes (f37 xs) (fun m=>m ∈ xs∧∀ x ∈ xs,m ≤ x):=by
 unfold f37
 refine Yes.bind (qskip (decide_eq_false (by omega)) (Yes.some (qbind _ (qidx (i:=0) h1) (Yes.bind (Yes.mono (Q':=fun m=>m ∈ xs∧∀ x ∈ xs,m ≤ x) ?_ fun m hm=>Yes.some hm)))))
 refine Yes.lp (fun s=>∃ i:Nat,s.2=i∧1 ≤ i∧i ≤ xs.length∧s.1 ∈ xs∧∀ q (hq:q < xs.length),q < i→s.1 ≤ xs[q]) (fun s=>xs.length - s.2.toNat) ⟨1,rfl,by omega,h1,List.getElem_mem h1,fun q hq h=>(by
  have e:q=0:=(by omega)
  subst e
  exact Int.le_refl _)⟩ (by show xs.length - _ < _; omega) ?_
 rintro ⟨m,b⟩ k ⟨i,e1,e2,e3,e4,e5⟩ hk
 simp only at e1 e4 e5
 subst e1
 refine Yes.jn (Yes.cond (fun hc=>?_) (fun hc=>Yes.some ⟨e4,fun x hx=>?_⟩))
 ·have hc : (i : Int) < (xs.length : Int) := of_decide_eq_true hc
  have hi:i < xs.length:=by omega
  have hmin:min64 m xs[i]=m ∨ min64 m xs[i]=xs[i]:=by unfold min64; split <;> simp
  have hle:min64 m xs[i] ≤ m∧min64 m xs[i] ≤ xs[i]:=by unfold min64; split <;> omega
  refine Yes.bind (qbind _ (qidx hi) (Yes.some (hk _ ⟨i + 1,?_,by omega,by omega,?_,fun q hq hlt=>?_⟩ ?_)))
  ·show w64 ((i:Int) + 1)=_; rw [w64_id (by omega) (by omega)]; simp
  ·show min64 m xs[i] ∈ xs
   rcases hmin with h | h <;> rw [h]
   ·exact e4
   ·exact List.getElem_mem hi
  ·show min64 m xs[i] ≤ xs[q]
   rcases (by omega:q < i ∨ q=i) with h | rfl
   ·have:=e5 q hq h; omega
   ·exact hle.2
  ·show xs.length - (w64 ((i : Int) + 1)).toNat < xs.length - (i : Int).toNat
   rw [w64_id (by omega) (by omega)]; omega
 ·have hc : ¬ (i : Int) < (xs.length : Int) := of_decide_eq_false hc
  obtain ⟨q,hq,rfl⟩:=List.getElem_of_mem hx
  exact e5 q hq (by omega)
theorem g38 {xs:List Int} {v:Int} (h:v ∈ xs) (h2:xs.length ≤ 1000):Yes (f38 xs v) (fun r=>∃ i:Nat,r=i∧∃ hi:i < xs.length,xs[i]=v):=by
 unfold f38
 refine Yes.jn (Yes.lp (fun s=>∃ i:Nat,s=i∧i ≤ xs.length∧∀ q (hq:q < xs.length),q < i→xs[q] ≠ v) (fun s=>xs.length - s.toNat) ⟨0,rfl,by omega,fun q hq h=>absurd h (Nat.not_lt_zero _)⟩ (by show xs.length - _ < _; omega) ?_)
 rintro _ k ⟨i,rfl,e2,e3⟩ hk
 refine Yes.cond (fun hc=>?_) (fun hc=>?_)
 ·have hc : (i : Int) < (xs.length : Int) := of_decide_eq_true hc
  have hi:i < xs.length:=by omega
  refine Yes.jn (qbind _ (qidx hi) (Yes.cond (fun he=>Yes.some ⟨i,rfl,hi,(beq_iff_eq.1 he).symm⟩) (fun he=>hk _ ⟨i + 1,?_,by omega,fun q hq hlt=>?_⟩ ?_)))
  ·rw [w64_id (by omega) (by omega)]; simp
  ·rcases (by omega : q < i ∨ q = i) with h | rfl
   ·exact e3 q hq h
   ·intro e; rw [e] at he; simp at he
  ·rw [w64_id (by omega) (by omega)]; omega
 ·have hc : ¬ (i : Int) < (xs.length : Int) := of_decide_eq_false hc
  obtain ⟨q,hq,e⟩:=List.getElem_of_mem h
  exact absurd e (e3 q hq (by omega))
theorem G_step {R:List Int} {c:Int} {cs:List Int} {a:Nat} (h:G R (c :: cs) a < 1048576):c=R.getD a 0∧∃ s,s ≤ 2∧fa s + G R cs ((a + s) % R.length)=G R (c :: cs) a:=by
 rw [G] at h ⊢
 split at h
 ·rename_i hc
  refine ⟨hc,?_⟩
  rw [if_pos hc]
  have h3:(min (min (min 1048576 (fa 0 + G R cs ((a + 0) % R.length))) (fa 1 + G R cs ((a + 1) % R.length))) (fa 2 + G R cs ((a + 2) % R.length)))=fa 0 + G R cs ((a + 0) % R.length) ∨ (min (min (min 1048576 (fa 0 + G R cs ((a + 0) % R.length))) (fa 1 + G R cs ((a + 1) % R.length))) (fa 2 + G R cs ((a + 2) % R.length)))=fa 1 + G R cs ((a + 1) % R.length) ∨ (min (min (min 1048576 (fa 0 + G R cs ((a + 0) % R.length))) (fa 1 + G R cs ((a + 1) % R.length))) (fa 2 + G R cs ((a + 2) % R.length)))=fa 2 + G R cs ((a + 2) % R.length):=by omega
  rcases h3 with h3 | h3 | h3
  ·exact ⟨0,by omega,h3.symm⟩
  ·exact ⟨1,by omega,h3.symm⟩
  ·exact ⟨2,by omega,h3.symm⟩
 ·omega
theorem g19 {H : Nat} (hH : 1 ≤ H ∧ H ≤ 12) {R C : List Int} (hb : BOk H ⟨H, crd R⟩) (hC : ∀ c ∈ C, 0 ≤ c ∧ c < ((2 ^ H : Nat) : Int)) (hCl : C.length ≤ 60) (hex : ∃ a, a < R.length ∧ G R C a < 1048576) :
  Yes (f19 ⟨H,crd R⟩ C) (fun r=>r.2.2.2=0∧(∃ m:Nat,r.2.2.1=m∧∀ a,a < R.length→m ≤ G R C a)∧∃ (a:Nat) (ss:List Nat),r.1=a∧a < R.length∧r.2.1=(ss.map fun s:Nat=>(s:Int))∧(∀ s ∈ ss,s ≤ 2)∧ss.length=C.length∧wk R a ss=C):=by
 have hcl:=crd_len R
 have h2:1 ≤ (crd R).length∧(crd R).length ≤ 10:=hb.2.1
 have hn:1 ≤ R.length∧R.length ≤ 1000:=by omega
 have h35:f35 ⟨H,crd R⟩ C=some (⟨⟨⟨H,crd R⟩,H⟩,C⟩,0):=by
  refine Yes.eq ?_
  unfold f35
  refine qbind _ (c111 hH hb) (Yes.jn (qskip rfl (qskip (decide_eq_false (by omega)) (qbind false ?_ (qskip rfl (Yes.some rfl))))))
  rw [c165 C _ (fun _=>false) (by omega) fun c hc=>?_]
  ·simp
  ·refine Yes.eq ?_
   unfold f56
   have h0:=hC c hc
   refine Yes.bind (qtake (bne_iff_ne.2 (by omega)) (qbind true (c110 hH (by simp) fun r hr=>by rw [List.mem_singleton.1 hr]; exact h0) (Yes.some (Yes.some rfl))))
 unfold f19
 refine qbind _ h35 (Yes.jn (qskip rfl (Yes.bind ((g36 (H:=H) (fun c hc=>(hC c hc).1) hn hCl).mono fun L hL=>?_))))
 obtain ⟨l1,l2⟩:=hL
 have hL0:0 < L.length:=by omega
 have e0:L[0]=T R C:=by rw [l2 0 hL0]; rfl
 refine Yes.jn (qbind _ (qidx (i:=0) hL0) ?_)
 rw [e0]
 refine Yes.bind ((g37 (by rw [T_len]; omega) (by rw [T_len]; omega)).mono fun m hm=>?_)
 obtain ⟨m1,m2⟩:=hm
 have hall:∀ a,a < R.length→m ≤ ((G R C a:Nat):Int):=fun a ha=>m2 _ (List.mem_map_of_mem (List.mem_range.2 ha))
 obtain ⟨a0,ha0,hg0⟩:=hex
 have hmlt:=hall a0 ha0
 refine qskip (decide_eq_false (by omega)) (qbind _ (qidx (i:=0) hL0) ?_)
 rw [e0]
 refine Yes.bind ((g38 m1 (by rw [T_len]; omega)).mono fun f hf=>?_)
 obtain ⟨a,rfl,ha,hav⟩:=hf
 rw [T_at] at hav
 rw [T_len] at ha
 subst hav
 refine Yes.bind (Yes.mono (Q':=fun st=>∃ ss:List Nat,st=(ss.map fun s:Nat=>(s:Int))∧(∀ s ∈ ss,s ≤ 2)∧ss.length=C.length∧wk R a ss=C) ?_ fun st hst=>?_)
 ·refine Yes.upto2 C.length (by omega) (fun p st b => ∃ ss : List Nat, st = (ss.map fun s : Nat => (s : Int)) ∧ (∀ s ∈ ss, s ≤ 2) ∧ ss.length = p ∧ wk R a ss = C.take p ∧ b = ((ep R.length a ss : Nat) : Int) ∧ G R (C.drop p) (ep R.length a ss) < 1048576)
   ⟨[],rfl,by simp,rfl,rfl,rfl,by show G R C a < _; omega⟩ (fun p st b k hp hI hk=>?_) (fun st b k hI=>?_)
  ·obtain ⟨ss, i1, i2, i3, i4, i5, i6⟩ := hI
   subst i5
   have hpos:=ep_lt (n:=R.length) (by omega) (ss:=ss) ha
   have hdrop:C.drop p=C[p] :: C.drop (p + 1):=List.drop_eq_getElem_cons hp
   rw [hdrop] at i6
   obtain ⟨hrow,s0,hs0,hst0⟩:=G_step i6
   have hLp:p < L.length:=by omega
   have hLp1:p + 1 < L.length:=by omega
   refine qtake (decide_eq_true (by omega)) (Yes.bind (Yes.bind (Yes.mono (Q':=fun s=>∃ t:Nat,s=(t:Int)∧t ≤ 2∧fa t + G R (C.drop (p + 1)) ((ep R.length a ss + t) % R.length)=G R (C[p] :: C.drop (p + 1)) (ep R.length a ss)) ?_ fun s hs=>?_)))
   ·refine Yes.lp (fun s => ∃ t : Nat, s = (t : Int) ∧ t ≤ s0) (fun s => 3 - s.toNat) ⟨0, rfl, by omega⟩ (by show 3 - _ < _; omega) ?_
    rintro _ k2 ⟨t,rfl,ht⟩ hk2
    have ht2:t ≤ 2:=by omega
    have hat:(ep R.length a ss + t) % R.length < (T R (C.drop (p + 1))).length:=by rw [T_len]; exact Nat.mod_lt _ (by omega)
    have hat2:ep R.length a ss < (T R (C.drop p)).length:=by rw [T_len]; exact hpos
    have ew:w64 ((p:Int) + 1)=((p + 1:Nat):Int):=by rw [w64_id (by omega) (by omega)]; simp
    have g2:=G_le R (C.drop (p + 1)) ((ep R.length a ss + t) % R.length)
    have g3:fa t ≤ 1:=by unfold fa; split <;> omega
    refine Yes.jn (qbind _ (g39 t) ?_)
    rw [ew]
    refine qbind _ (qidx hLp1) (qbind _ (after_z hpos (by omega) ht2) ?_)
    rw [l2 (p + 1) hLp1]
    refine qbind _ (qidx hat) (qbind _ (qidx hLp) ?_)
    rw [l2 p hLp]
    refine qbind _ (qidx hat2) ?_
    rw [T_at,T_at,w64_id (n:=((fa t:Nat):Int) + _) (by omega) (by omega),hdrop]
    refine Yes.cond (fun hne=>hk2 _ ⟨t + 1,?_,?_⟩ ?_) (fun heq=>Yes.some ⟨t,rfl,ht2,?_⟩)
    ·rw [w64_id (by omega) (by omega)]; simp
    ·rcases (by omega : t < s0 ∨ t = s0) with h | rfl
     ·omega
     ·exfalso
      have hne:=bne_iff_ne.1 hne
      exact hne (by rw [← hst0]; simp)
    ·show 3 - (w64 ((t : Int) + 1)).toNat < 3 - (t : Int).toNat
     rw [w64_id (by omega) (by omega)]; omega
    ·have heq : ((fa t : Nat) : Int) + ((G R (C.drop (p + 1)) ((ep R.length a ss + t) % R.length) : Nat) : Int) = ((G R (C[p] :: C.drop (p + 1)) (ep R.length a ss) : Nat) : Int) := by simpa using heq
     omega
   ·obtain ⟨t, rfl, ht, hteq⟩ := hs
    refine Yes.bind (Yes.apnd (by rw [i1]; simp; omega) (by rw [i1]; simp; omega) (qbind _ (after_z hpos (by omega) ht) (Yes.some (hk _ _ ⟨ss ++ [t],?_,fun s hs=>?_,?_,?_,?_,?_⟩))))
    ·rw [i1]; simp
    ·rcases List.mem_append.1 hs with h | h
     ·exact i2 s h
     ·rw [List.mem_singleton.1 h]; exact ht
    ·rw [List.length_append,i3]; rfl
    ·rw [wk_snoc,i4,take_succ hp,hrow]
    ·rw [ep_snoc]
    ·rw [ep_snoc]; omega
  ·obtain ⟨ss, i1, i2, i3, i4, i5, i6⟩ := hI
   rw [List.take_length] at i4
   exact qskip (decide_eq_false (by omega)) (Yes.some ⟨ss,i1,i2,i3,i4⟩)
 ·obtain ⟨ss, i1, i2, i3, i4⟩ := hst
  exact Yes.some ⟨rfl,⟨_,rfl,fun b hb=>by have:=hall b hb; omega⟩,a,ss,rfl,ha,i1,i2,i3,i4⟩
end Go.Proofs.YtkfdjkkbnfohjaaGreatDoor
