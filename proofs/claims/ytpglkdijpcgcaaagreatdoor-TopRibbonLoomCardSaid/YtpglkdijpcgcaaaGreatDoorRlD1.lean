/- Laws of plain functions, part 1. -/
import Derived.Test.YtpglkdijpcgcaaaGreatDoorRlB2
set_option maxRecDepth 8000
namespace Go.Proofs.YtpglkdijpcgcaaaGreatDoor
open Go.RowKit
open Classical
theorem rem_nnzB {a b:Int} (ha:0≤a) (hb:0<b):Kr a b=some (a % b):=by
 unfold Kr;rw [if_neg (by omega),Int.tmod_eq_emod_of_nonneg ha]
theorem lift_zzB {H:Int} {R:List Int} {a:Nat} (ha:a<R.length):f105 ⟨⟨H,Kh R⟩,H⟩ (a:Int)=some R[a]:=by
 have hl:a<(Kh R).length:=by rw [Jp];exact ha
 refine Yes.eq ?_
 unfold f105
 refine Yes.jn (Qp _ (Ca hl) ?_)
 rw [R8 hl ha]
 exact Q1 rfl (Qp _ (Ca hl) (Yes.some (by rw [R8 hl ha])))
theorem I7 {H:Int} {R:List Int} {a s:Nat} (ha:a<R.length) (hn:R.length≤1000) (hs:s≤2):f106 ⟨⟨H,Kh R⟩,H⟩ (a:Int) (s:Int)=some (((a+s) % R.length:Nat):Int):=by
 refine Yes.eq ?_
 unfold f106
 rw [Qg (n:=(a:Int)+s) (by omega) (by omega)]
 show Yes ((Kr _ ((Kh R).length:Int)).bind _) _
 rw [Jp]
 refine Qp _ (rem_nnzB (by omega) (by omega)) (Yes.some ?_)
 norm_cast
theorem g11zB {H:Nat} (hH:1≤H∧H≤12) {R:List Int} (hb:Oz H ⟨H,Kh R⟩) {a:Nat} (ha:a<R.length) {ss:List Nat} (hs:∀ s∈ss,s≤2) (hl:ss.length≤60) :
  f71 ⟨H,Kh R⟩ (a:Int) (ss.map fun s:Nat=>(s:Int))=some (V0 R a ss,((Bx R.length a ss:Nat):Int),0):=by
 have h2:=hb.2.1
 have hcl:=Jp R
 have h2:1≤(Kh R).length∧(Kh R).length≤12:=h2
 refine Yes.eq ?_
 unfold f71
 refine Qp _ (E9 hH hb) (Yes.jn (Q1 rfl (Qp true (Cm _ _ _ (by simp) fun x hxB=>?_) (Q1 rfl (Q1 (decide_eq_false (by rw [List.length_map];omega)) (Qp true (Cm _ _ _ (by rw [List.length_map];omega) fun x hxB=>?_) (Q1 rfl ?_)))))))
 ·rw [List.mem_singleton.1 hxB]
  show 0≤(a:Int)∧(a:Int)≤w64 (((Kh R).length:Int)-1)
  rw [Qg (by omega) (by omega)];omega
 ·obtain ⟨s,h,rfl⟩:=List.mem_map.1 hxB
  have:=hs s h
  omega
 refine Yes.bind (Yes.mono (Q':=fun r=>r=(V0 R a ss,((Bx R.length a ss:Nat):Int))) ?_ fun r hr=>Yes.some (by rw [hr]))
 refine Yes.upto2 ss.length (by omega) (fun i rows b=>rows=V0 R a (ss.take i)∧b=((Bx R.length a (ss.take i):Nat):Int)) ⟨rfl,rfl⟩ (fun i rows b k hi hI hkz=>?_) (fun rows b k hI=>?_)
 ·obtain ⟨i1,i2⟩:=hI
  have hil:i<(ss.map fun s:Nat=>(s:Int)).length:=by rw [List.length_map];exact hi
  have hpos:=Pu (n:=R.length) (by omega) (ss:=ss.take i) ha
  have hrl:rows.length=i:=by rw [i1,Bp];simp;omega
  have hs2:=hs _ (List.getElem_mem hi)
  subst i2
  refine Bc (decide_eq_true (by rw [List.length_map];omega)) (Yes.bind (Qp ((ss[i]:Nat):Int) (by rw [Ca hil];simp) (Qp _ (lift_zzB hpos) (Yes.bind (Yes.apnd (by rw [hrl];simp;omega) (by rw [hrl];simp;omega) (Qp _ (I7 hpos (by omega) hs2) (Yes.some (hkz _ _ ⟨?_,?_⟩))))))))
  ·rw [i1,Jw hi,Fl,List.getD_eq_getElem?_getD,List.getElem?_eq_getElem hpos];rfl
  ·rw [Jw hi,C7]
 ·obtain ⟨i1,i2⟩:=hI
  rw [List.take_length] at i1 i2
  exact Q1 (decide_eq_false (by rw [List.length_map];omega)) (Yes.some (by rw [i1,i2]))
theorem N2 {R:List Int}:∀ {ss:List Nat} {a:Nat},a<R.length→∀ r∈V0 R a ss,r∈R
 | [],_,_,_,h=>by cases h
 | s::ss,a,ha,r,h=>by
  rw [V0] at h
  rcases List.mem_cons.1 h with e | e
  ·rw [e,List.getD_eq_getElem?_getD,List.getElem?_eq_getElem ha];exact List.getElem_mem ha
  ·exact N2 (Nat.mod_lt _ (by omega)) r e
def O9 (n:Nat) (c:T5):Prop:=∃ a:Nat,c.card=a∧a<n
theorem s20rB {H:Nat} (hH:1≤H∧H≤12) {l:Gc} (h:L6B H l) {c:Z4} (hc:Cv c) {cy:T5} (hcy:O9 l.Design.Rows.length cy) :
  Yes (f37 cy (Js l) c) fun r=>(r.1.length:Int)=c.Picks∧r.2.1=0∧O9 l.Design.Rows.length r.2.2:=by
 obtain ⟨h1,h2,h3,h4,h5⟩:=hc
 have hd:=h.1
 have hlen:=hd.2.1
 have hb:=bok6B hd
 have hk:=h.2
 unfold f37
 have e1:idx (Js l).Chains c.Chain=some ⟨⟨[114,111,115,101]⟩,⟨l.Design.Hooks,Kh l.Design.Rows⟩⟩:=by rw [h3];rfl
 have e2:idx (Js l).Ties c.Tie=some ⟨⟨[108,105,108,121]⟩,l.Harness⟩:=by rw [h4];rfl
 refine Tc _ e1 (Tc _ e2 (Qj ?_ (Yes.bind (Yes.some ?_))))
 ·show (l.Design.Hooks != l.Harness.Hooks)=false
  rw [hk.1,hd.1];simp
 have hcy1:O9 l.Design.Rows.length (bif cy.chain != w64 (c.Chain+1) then ⟨w64 (c.Chain+1),0⟩ else cy):=by
  cases cy.chain != w64 (c.Chain+1) with
  | true=>exact ⟨0,rfl,by omega⟩
  | false=>exact hcy
 generalize (bif cy.chain != w64 (c.Chain+1) then (⟨w64 (c.Chain+1),0⟩:T5) else cy)=c1 at hcy1 ⊢
 obtain ⟨a,ha,han⟩:=hcy1
 refine Tc _ (s50rB h5) ?_
 have hb:Oz H ⟨(H:Int),Kh l.Design.Rows⟩:=hd.1▸hb
 have hw:=g11zB (H:=H) hH hb han (ss:=List.replicate c.Picks.toNat 1) (fun s hs=>by rw [List.eq_of_mem_replicate hs];omega) (by rw [List.length_replicate];omega)
 have hw:f71 ⟨l.Design.Hooks,Kh l.Design.Rows⟩ c1.card ((List.replicate c.Picks.toNat 1).map fun s:Nat=>(s:Int))=some (V0 l.Design.Rows a (List.replicate c.Picks.toNat 1),((Bx l.Design.Rows.length a (List.replicate c.Picks.toNat 1):Nat):Int),0):=by rw [hd.1,ha];exact hw
 refine Tc _ hw (Qj rfl ?_)
 have hdo:DOkzB H ⟨l.Design.Hooks,V0 l.Design.Rows a (List.replicate c.Picks.toNat 1)⟩:=by
  refine ⟨hd.1,?_,fun r hr=>hd.2.2 r (N2 han r hr)⟩
  show 1≤(V0 l.Design.Rows a (List.replicate c.Picks.toNat 1)).length∧(V0 l.Design.Rows a (List.replicate c.Picks.toNat 1)).length≤30
  rw [Bp,List.length_replicate];omega
 refine Tc _ (g15zB hH hk hdo) (Yes.some ⟨?_,rfl,_,rfl,Pu (by omega) han⟩)
 show (((Mv l.Harness.Warps (V0 l.Design.Rows a (List.replicate c.Picks.toNat 1))).length:Nat):Int)=c.Picks
 rw [Mv,List.length_map,Bp,List.length_replicate];omega
def Q0 (k:Nat):List Z4→Int
 | []=>0
 | c::l=>(if c.Loom=(k:Int) then c.Picks else 0)+Q0 k l
theorem Xx {k:Nat} {c:Z4}:∀ {l:List Z4},Q0 k (l++[c])=Q0 k l+(if c.Loom=(k:Int) then c.Picks else 0)
 | []=>by simp [Q0]
 | d::l=>by simp only [List.cons_append,Q0,Xx];omega
theorem Bo {k:Nat}:∀ {l:List Z4},(∀ c∈l,Cv c)→0≤Q0 k l∧Q0 k l≤15*(l.length:Int)
 | [],_=>by simp [Q0]
 | d::l,h=>by
  have ih:=Bo (k:=k) (l:=l) fun c hc=>h c (List.mem_cons_of_mem _ hc)
  have:=(h d (by simp)).2.2.2.2
  simp only [Q0,List.length_cons]
  split<;>omega
theorem s8rB {H:Nat} (hH:1≤H∧H≤12) {l:Gc} (h:L6B H l) {logs:List (List UInt8)} {y:List Z4} (hy:Bz y) (hj:f36 logs=some (y,0,0)) :
  Yes (f13 (Js l) logs) fun r=>r.2.2=0∧r.1.length=16∧∀ k:Nat,k<16→∃ w,r.1[k]?=some w∧(w.length:Int)=Q0 k y:=by
 have hlen:=h.1.2.1
 have hy12:=hy.1
 unfold f13
 refine Tc _ (s18mB hH h) (Qj rfl (Tc _ hj (Qj rfl ?_)))
 refine Yes.upto y.length (by omega) (fun i z=>(z.1.length=16∧∀ c∈z.1,O9 l.Design.Rows.length c)∧z.2.length=16∧∀ k:Nat,k<16→∃ w,z.2[k]?=some w∧(w.length:Int)=Q0 k (y.take i)) ⟨⟨rfl,fun c hc=>?_⟩,rfl,fun k hk=>⟨[],?_,rfl⟩⟩ (fun i z k hi hI hk=>?_) (fun z k hI=>?_)
 ·rw [List.eq_of_mem_replicate hc];exact ⟨0,rfl,by omega⟩
 ·rw [List.getElem?_replicate,if_pos hk]
 ·obtain ⟨⟨a1,a2⟩,a3,a4⟩:=hI
  have hc:=hy.2.2 y[i] (List.getElem_mem hi)
  have hlo:=hc.2.1
  refine K4 (decide_eq_true (by show (i:Int)<(y.length:Int);omega)) (Tc _ (Xv hi) (Qj ?_ ?_))
  ·rw [hc.2.2.1,hc.2.2.2.1];rfl
  obtain ⟨m,hm⟩:∃ m:Nat,(y[i]).Loom=m:=⟨(y[i]).Loom.toNat,by omega⟩
  have hm16:m<16:=by omega
  have e1:idx z.1 (y[i]).Loom=some (z.1[m]'(by omega)):=by rw [hm];exact Xv (by omega)
  refine Tc _ e1 (Yes.bind ((s20rB hH h hc (a2 _ (List.getElem_mem _))).mono fun wv hwv=>?_))
  obtain ⟨w1,w2,w3⟩:=hwv
  refine Qj (by rw [w2];rfl) ?_
  obtain ⟨w,hw,hwl⟩:=a4 m hm16
  have e2:idx z.2 (y[i]).Loom=some w:=by
   rw [hm];unfold idx;rw [if_pos (by omega),Int.toNat_natCast];exact hw
  have hr:=Bo (k:=m) (l:=y.take i) fun c hc=>hy.2.2 c (List.mem_of_mem_take hc)
  have hti:(y.take i).length=i:=by rw [List.length_take];omega
  rw [hti] at hr
  have hp:=hc.2.2.2.2
  refine Tc _ e2 (Yes.bind (Yes.apnd (by omega) (by omega) (hk _ ⟨⟨?_,fun c hcm=>?_⟩,?_,fun k hk16=>?_⟩)))
  ·show (z.1.set _ _).length=16
   rw [List.length_set];exact a1
  ·rcases List.mem_or_eq_of_mem_set hcm with hcm | rfl
   ·exact a2 c hcm
   ·exact w3
  ·show (z.2.set _ _).length=16
   rw [List.length_set];exact a3
  ·show ∃ w',(z.2.set (y[i]).Loom.toNat (w++wv.1))[k]?=some w'∧_
   rw [hm,Int.toNat_natCast,List.take_succ_eq_append_getElem hi,Xx,hm,List.getElem?_set]
   by_cases hkm:m=k
   ·subst hkm
    rw [if_pos rfl,if_pos (by omega)]
    refine ⟨_,rfl,?_⟩
    rw [List.length_append,if_pos rfl];omega
   ·rw [if_neg hkm,if_neg (by omega)]
    obtain ⟨w',h1,h2⟩:=a4 k hk16
    exact ⟨w',h1,by omega⟩
 ·obtain ⟨_,a3,a4⟩:=hI
  refine Qj (decide_eq_false (by show ¬ (y.length:Int)<(y.length:Int);omega)) (Yes.some ⟨rfl,a3,?_⟩)
  rw [List.take_length] at a4
  exact a4
end Go.Proofs.YtpglkdijpcgcaaaGreatDoor
