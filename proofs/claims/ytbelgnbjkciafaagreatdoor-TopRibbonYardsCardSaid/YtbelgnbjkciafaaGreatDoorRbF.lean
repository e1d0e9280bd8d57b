/- TopRibbonYards: the replay. -/
import Derived.Test.YtbelgnbjkciafaaGreatDoorRbE
set_option maxRecDepth 8000
namespace Go.Proofs.YtbelgnbjkciafaaGreatDoor
open Go.RowKit
open Classical
theorem rep_all:((List.range 16).all fun p=>p == 0 || f50 [1] (p:Int) == some (List.replicate p (1:Int)))=true:=by kernel_rfl
theorem s50r {p:Int} (h:1 ≤ p∧p ≤ 15):f50 [1] p=some ((List.replicate p.toNat 1).map fun s:Nat=>(s:Int)):=by
 obtain ⟨n,rfl⟩:∃ n:Nat,p=n:=⟨p.toNat,by omega⟩
 have:=List.all_eq_true.1 rep_all n (List.mem_range.2 (by omega))
 have h0:¬ n=0:=by omega
 simp only [beq_iff_eq,Bool.or_eq_true,h0,false_or] at this
 rw [this,Int.toNat_natCast,List.map_replicate]; rfl
theorem wk_mem {R : List Int} : ∀ {ss : List Nat} {a : Nat}, a < R.length → ∀ r ∈ wkz R a ss, r ∈ R
 | [],_,_,_,h=>by cases h
 | s :: ss,a,ha,r,h=>by
  rw [wkz] at h
  rcases List.mem_cons.1 h with e | e
  ·rw [e,List.getD_eq_getElem?_getD,List.getElem?_eq_getElem ha]; exact List.getElem_mem ha
  ·exact wk_mem (Nat.mod_lt _ (by omega)) r e
def CyOk (n:Nat) (c:BookCylinder):Prop:=∃ a:Nat,c.card=a∧a < n
theorem s20r {l : FaultLoom} (h : L6 l) {c : BookCloth} (hc : OkC c) {cy : BookCylinder} (hcy : CyOk l.Design.Rows.length cy) :
  Yes (f20 cy (millOf l) c) fun r=>(r.1.length:Int)=c.Picks∧r.2.1=0∧CyOk l.Design.Rows.length r.2.2:=by
 obtain ⟨h1,h2,h3,h4,h5⟩:=hc
 have hd:=h.1
 have hlen:=hd.2.1
 have hb:=bok6 hd
 have hk:=h.2
 unfold f20
 have e1:idx (millOf l).Chains c.Chain=some ⟨⟨[114,111,115,101]⟩,⟨6,crdz l.Design.Rows⟩⟩:=by rw [h3]; rfl
 have e2:idx (millOf l).Ties c.Tie=some ⟨⟨[108,105,108,121]⟩,l.Harness⟩:=by rw [h4]; rfl
 refine qbind _ e1 (qbind _ e2 (qskip ?_ (Yes.bind (Yes.some ?_))))
 ·show ((6 : Int) != l.Harness.Hooks) = false
  rw [hk.1]; rfl
 have hcy1:CyOk l.Design.Rows.length (bif cy.chain != w64 (c.Chain + 1) then ⟨w64 (c.Chain + 1),0⟩ else cy):=by
  cases cy.chain != w64 (c.Chain + 1) with
  | true=>exact ⟨0,rfl,by omega⟩
  | false=>exact hcy
 generalize (bif cy.chain != w64 (c.Chain + 1) then (⟨w64 (c.Chain + 1),0⟩:BookCylinder) else cy)=c1 at hcy1 ⊢
 obtain ⟨a,ha,han⟩:=hcy1
 refine qbind _ (s50r h5) ?_
 have hw:=g11z (H:=6) (by omega) hb han (ss:=List.replicate c.Picks.toNat 1) (fun s hs=>by rw [List.eq_of_mem_replicate hs]; omega) (by rw [List.length_replicate]; omega)
 have hw:f49 ⟨6,crdz l.Design.Rows⟩ c1.card ((List.replicate c.Picks.toNat 1).map fun s:Nat=>(s:Int))=some (wkz l.Design.Rows a (List.replicate c.Picks.toNat 1),((epz l.Design.Rows.length a (List.replicate c.Picks.toNat 1):Nat):Int),0):=by rw [ha]; exact hw
 refine qbind _ hw (qskip rfl ?_)
 have hdo:DOkz 6 ⟨6,wkz l.Design.Rows a (List.replicate c.Picks.toNat 1)⟩:=by
  refine ⟨rfl,?_,fun r hr=>hd.2.2 r (wk_mem han r hr)⟩
  show 1 ≤ (wkz l.Design.Rows a (List.replicate c.Picks.toNat 1)).length∧(wkz l.Design.Rows a (List.replicate c.Picks.toNat 1)).length ≤ 30
  rw [wk_lenz,List.length_replicate]; omega
 refine qbind _ (g15z (by omega) hk hdo) (Yes.some ⟨?_,rfl,_,rfl,ep_ltz (by omega) han⟩)
 show (((wvz l.Harness.Warps (wkz l.Design.Rows a (List.replicate c.Picks.toNat 1))).length:Nat):Int)=c.Picks
 rw [wvz,List.length_map,wk_lenz,List.length_replicate]; omega
def picksOf (k : Nat) : List BookCloth → Int
 | []=>0
 | c :: l=>(if c.Loom=(k:Int) then c.Picks else 0) + picksOf k l
theorem picksOf_snoc {k : Nat} {c : BookCloth} : ∀ {l : List BookCloth}, picksOf k (l ++ [c]) = picksOf k l + (if c.Loom = (k : Int) then c.Picks else 0)
 | []=>by simp [picksOf]
 | d :: l=>by simp only [List.cons_append,picksOf,picksOf_snoc]; omega
theorem picksOf_rng {k : Nat} : ∀ {l : List BookCloth}, (∀ c ∈ l, OkC c) → 0 ≤ picksOf k l ∧ picksOf k l ≤ 15 * (l.length : Int)
 | [],_=>by simp [picksOf]
 | d :: l,h=>by
  have ih:=picksOf_rng (k:=k) (l:=l) fun c hc=>h c (List.mem_cons_of_mem _ hc)
  have:=(h d (by simp)).2.2.2.2
  simp only [picksOf,List.length_cons]
  split <;> omega
theorem s8r {l : FaultLoom} (h : L6 l) {logs : List (List UInt8)} {y : List BookCloth} (hy : LgOk y) (hj : f19 logs = some (y, 0, 0)) :
  Yes (f8 (millOf l) logs) fun r=>r.2.2=0∧r.1.length=16∧∀ k:Nat,k < 16→∃ w,r.1[k]?=some w∧(w.length:Int)=picksOf k y:=by
 have hlen:=h.1.2.1
 have hy12:=hy.1
 unfold f8
 refine qbind _ (s18m h) (qskip rfl (qbind _ hj (qskip rfl ?_)))
 refine Yes.upto y.length (by omega) (fun i z=>(z.1.length=16∧∀ c ∈ z.1,CyOk l.Design.Rows.length c)∧z.2.length=16∧∀ k:Nat,k < 16→∃ w,z.2[k]?=some w∧(w.length:Int)=picksOf k (y.take i)) ⟨⟨rfl,fun c hc=>?_⟩,rfl,fun k hk=>⟨[],?_,rfl⟩⟩ (fun i z k hi hI hk=>?_) (fun z k hI=>?_)
 ·rw [List.eq_of_mem_replicate hc]; exact ⟨0,rfl,by omega⟩
 ·rw [List.getElem?_replicate,if_pos hk]
 ·obtain ⟨⟨a1, a2⟩, a3, a4⟩ := hI
  have hc:=hy.2.2 y[i] (List.getElem_mem hi)
  have hlo:=hc.2.1
  refine qtake (decide_eq_true (by show (i:Int) < (y.length:Int); omega)) (qbind _ (qidx hi) (qskip ?_ ?_))
  ·rw [hc.2.2.1,hc.2.2.2.1]; rfl
  obtain ⟨m,hm⟩:∃ m:Nat,(y[i]).Loom=m:=⟨(y[i]).Loom.toNat,by omega⟩
  have hm16:m < 16:=by omega
  have e1:idx z.1 (y[i]).Loom=some (z.1[m]'(by omega)):=by rw [hm]; exact qidx (by omega)
  refine qbind _ e1 (Yes.bind ((s20r h hc (a2 _ (List.getElem_mem _))).mono fun wv hwv=>?_))
  obtain ⟨w1,w2,w3⟩:=hwv
  refine qskip (by rw [w2]; rfl) ?_
  obtain ⟨w,hw,hwl⟩:=a4 m hm16
  have e2:idx z.2 (y[i]).Loom=some w:=by
   rw [hm]; unfold idx; rw [if_pos (by omega),Int.toNat_natCast]; exact hw
  have hr:=picksOf_rng (k:=m) (l:=y.take i) fun c hc=>hy.2.2 c (List.mem_of_mem_take hc)
  have hti:(y.take i).length=i:=by rw [List.length_take]; omega
  rw [hti] at hr
  have hp:=hc.2.2.2.2
  refine qbind _ e2 (Yes.bind (Yes.apnd (by omega) (by omega) (hk _ ⟨⟨?_,fun c hcm=>?_⟩,?_,fun k hk16=>?_⟩)))
  ·show (z.1.set _ _).length = 16
   rw [List.length_set]; exact a1
  ·rcases List.mem_or_eq_of_mem_set hcm with hcm | rfl
   ·exact a2 c hcm
   ·exact w3
  ·show (z.2.set _ _).length = 16
   rw [List.length_set]; exact a3
  ·show ∃ w', (z.2.set (y[i]).Loom.toNat (w ++ wv.1))[k]? = some w' ∧ _
   rw [hm,Int.toNat_natCast,List.take_succ_eq_append_getElem hi,picksOf_snoc,hm,List.getElem?_set]
   by_cases hkm:m=k
   ·subst hkm
    rw [if_pos rfl,if_pos (by omega)]
    refine ⟨_,rfl,?_⟩
    rw [List.length_append,if_pos rfl]; omega
   ·rw [if_neg hkm, if_neg (by omega)]
    obtain ⟨w',h1,h2⟩:=a4 k hk16
    exact ⟨w',h1,by omega⟩
 ·obtain ⟨_, a3, a4⟩ := hI
  refine qskip (decide_eq_false (by show ¬ (y.length:Int) < (y.length:Int); omega)) (Yes.some ⟨rfl,a3,?_⟩)
  rw [List.take_length] at a4
  exact a4
end Go.Proofs.YtbelgnbjkciafaaGreatDoor
