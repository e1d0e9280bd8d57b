/- TopRibbonFault: belts with turned cards: weaving, checking, replaying with all content. -/
import Derived.Test.YtepehlhgkipcoaaGreatDoorRfF1
set_option maxRecDepth 8000
namespace Go.Proofs.YtepehlhgkipcoaaGreatDoor
open Go.RowKit
open Classical
def Pe (H r:Nat):Nat:=(List.range H).foldl (fun a k=>2 * a + (r >>> k) % 2) 0
theorem En:((List.range 9).all fun H=>H == 0 || (List.range (2 ^ H)).all fun r=>f122 (H:Int) (r:Int) == some ((Pe H r:Nat):Int) && decide (Pe H r < 2 ^ H) && (List.range H).all fun k=>(Pe H r).testBit k == r.testBit (H - 1 - k))=true:=by kernel_rfl
theorem P5 {H r:Nat} (hH:1 ≤ H∧H ≤ 8) (hr:r < 2 ^ H):f122 (H:Int) (r:Int)=some ((Pe H r:Nat):Int)∧Pe H r < 2 ^ H∧∀ k,k < H→(Pe H r).testBit k=r.testBit (H - 1 - k):=by
 have h:=List.all_eq_true.1 En H (List.mem_range.2 (by omega))
 rw [Bool.or_eq_true] at h
 rcases h with h | h
 ·have : H = 0 := by simpa using h
  omega
 have h:=List.all_eq_true.1 h r (List.mem_range.2 hr)
 rw [Bool.and_eq_true,Bool.and_eq_true] at h
 obtain ⟨⟨h1,h2⟩,h3⟩:=h
 exact ⟨by simpa using h1,of_decide_eq_true h2,fun k hk=>by simpa using List.all_eq_true.1 h3 k (List.mem_range.2 hk)⟩
def Ua (H:Nat) (c:Z8):Int:=if c.Turned then ((Pe H c.Row.toNat:Nat):Int) else c.Row
section
variable {H:Nat} {CS:List Z8}
theorem E3 (hH:1 ≤ H∧H ≤ 8) (hb:B3 H ⟨H,CS⟩):∀ r ∈ CS.map (Ua H),0 ≤ r∧r < ((2 ^ H:Nat):Int):=fun r hr=>by
 obtain ⟨c,hc,rfl⟩:=List.mem_map.1 hr
 have h:=(hb.2.2 c hc).2
 unfold Ua
 split
 ·have := (P5 (r := c.Row.toNat) hH (by omega)).2.1
  omega
 ·exact h
theorem lift_g (hH:1 ≤ H∧H ≤ 8) (hb:B3 H ⟨H,CS⟩) {a:Nat} (ha:a < CS.length):f81 ⟨⟨H,CS⟩,H⟩ (a:Int)=some (Ua H CS[a]):=by
 refine Yes.eq ?_
 have h:=(hb.2.2 _ (List.getElem_mem ha)).2
 unfold f81
 refine Yes.jn (Q7 _ (F9 ha) ?_)
 unfold Ua
 cases ht:(CS[a]).Turned with
 | true=>
  rw [if_pos rfl]
  have hm:=(P5 (r:=(CS[a]).Row.toNat) hH (by omega)).1
  rw [show (((CS[a]).Row.toNat:Nat):Int)=(CS[a]).Row by omega] at hm
  exact Bc rfl (Q7 _ hm (Yes.some rfl))
 | false=>
  rw [if_neg (by simp)]
  exact Wp rfl (Q7 _ (F9 ha) (Yes.some rfl))
theorem Em {a s:Nat} (ha:a < CS.length) (hn:CS.length ≤ 1000) (hs:s ≤ 2):f82 ⟨⟨H,CS⟩,H⟩ (a:Int) (s:Int)=some (((a + s) % CS.length:Nat):Int):=by
 refine Yes.eq ?_
 unfold f82
 rw [Qj (n:=(a:Int) + s) (by omega) (by omega)]
 refine Q7 _ (D4 (by omega) (by show (0:Int) < (CS.length:Int); omega)) (Yes.some ?_)
 norm_cast
theorem g11g (hH : 1 ≤ H ∧ H ≤ 8) (hb : B3 H ⟨H, CS⟩) {a : Nat} (ha : a < CS.length) {ss : List Nat} (hs : ∀ s ∈ ss, s ≤ 2) (hl : ss.length ≤ 60) :
  f47 ⟨H,CS⟩ (a:Int) (ss.map fun s:Nat=>(s:Int))=some (wkz (CS.map (Ua H)) a ss,((epz CS.length a ss:Nat):Int),0):=by
 have h2:1 ≤ CS.length∧CS.length ≤ 12:=hb.2.1
 refine Yes.eq ?_
 unfold f47
 refine Q7 _ (c111z (by omega) hb) (Yes.jn (Wp rfl (Q7 true (Ln _ _ _ (by simp) fun x hx=>?_) (Wp rfl (Wp (decide_eq_false (by rw [List.length_map]; omega)) (Q7 true (Ln _ _ _ (by rw [List.length_map]; omega) fun x hx=>?_) (Wp rfl ?_)))))))
 ·rw [List.mem_singleton.1 hx]
  show 0 ≤ (a:Int)∧(a:Int) ≤ w64 ((CS.length:Int) - 1)
  rw [Qj (by omega) (by omega)]; omega
 ·obtain ⟨s, h, rfl⟩ := List.mem_map.1 hx
  have:=hs s h
  omega
 have hrl0:(CS.map (Ua H)).length=CS.length:=List.length_map _
 refine Yes.bind (Yes.mono (Q':=fun r=>r=(wkz (CS.map (Ua H)) a ss,((epz CS.length a ss:Nat):Int))) ?_ fun r hr=>Yes.some (by rw [hr]))
 refine Yes.upto2 ss.length (by omega) (fun i rows b=>rows=wkz (CS.map (Ua H)) a (ss.take i)∧b=((epz CS.length a (ss.take i):Nat):Int)) ⟨rfl,rfl⟩ (fun i rows b k hi hI hkz=>?_) (fun rows b k hI=>?_)
 ·obtain ⟨i1, i2⟩ := hI
  have hil:i < (ss.map fun s:Nat=>(s:Int)).length:=by rw [List.length_map]; exact hi
  have hpos:=Np (n:=CS.length) (by omega) (ss:=ss.take i) ha
  have hrl:rows.length=i:=by rw [i1,Ay]; simp; omega
  have hs2:=hs _ (List.getElem_mem hi)
  subst i2
  refine Bc (decide_eq_true (by rw [List.length_map]; omega)) (Yes.bind (Q7 ((ss[i]:Nat):Int) (by rw [F9 hil]; simp) (Q7 _ (lift_g hH hb hpos) (Yes.bind (Yes.apnd (by rw [hrl]; simp; omega) (by rw [hrl]; simp; omega) (Q7 _ (Em hpos (by omega) hs2) (Yes.some (hkz _ _ ⟨?_,?_⟩))))))))
  ·rw [i1, Yi hi, Pa, List.getD_eq_getElem?_getD, List.getElem?_eq_getElem (by rw [hrl0]; exact hpos), List.getElem_map]
   simp only [hrl0]; rfl
  ·rw [Yi hi,Ll]
 ·obtain ⟨i1, i2⟩ := hI
  rw [List.take_length] at i1 i2
  exact Wp (decide_eq_false (by rw [List.length_map]; omega)) (Yes.some (by rw [i1,i2]))
end
/-! ### Once round -/
theorem Mn {R : List Int} : ∀ {k a : Nat}, a < R.length → k ≤ R.length - a → wkz R a (List.replicate k 1) = (R.drop a).take k
 | 0,_,_,_=>by simp [wkz]
 | k + 1,a,ha,hk=>by
  rw [List.replicate_succ,wkz,List.getD_eq_getElem?_getD,List.getElem?_eq_getElem ha,List.drop_eq_getElem_cons ha,List.take_succ_cons]
  congr 1
  by_cases h:a + 1 < R.length
  ·rw [Nat.mod_eq_of_lt h]; exact Mn h (by omega)
  ·obtain rfl : k = 0 := by omega
   simp [wkz]
theorem Av {n : Nat} : ∀ {k a : Nat}, a < n → epz n a (List.replicate k 1) = (a + k) % n
 | 0,a,ha=>by rw [List.replicate_zero,epz,Nat.add_zero,Nat.mod_eq_of_lt ha]
 | k + 1,a,ha=>by
  rw [List.replicate_succ,epz,Av (Nat.mod_lt _ (by omega)),Nat.mod_add_mod]; congr 1; omega
/-! ### The mill -/
def V8 (l:FaultLoom) (CS:List Z8):Gj:=⟨[⟨⟨[108,105,108,121]⟩,l.Harness⟩],[⟨⟨[114,111,115,101]⟩,⟨l.Design.Hooks,CS⟩⟩]⟩
section
variable {H:Nat} {l:FaultLoom} {CS:List Z8}
theorem s18g (hH:1 ≤ H∧H ≤ 12) (h:L6 H l) (hb:B3 H ⟨l.Design.Hooks,CS⟩):f19 (V8 l CS)=some 0:=by
 have h37:f35 l.Harness=some 0:=c105z hH h.2
 have h39:f37 ⟨l.Design.Hooks,CS⟩=some 0:=by
  refine Yes.eq ?_
  unfold f37
  exact Gv _ (c111z hH hb) (Yes.some rfl)
 have h36:∀ a ∈ (V8 l CS).Ties,f34 a=some false:=fun a ha=>by
  have ha:a=⟨⟨[108,105,108,121]⟩,l.Harness⟩:=by simpa [V8] using ha
  subst ha
  refine Yes.eq ?_
  unfold f34
  exact Gv _ h37 (Yes.some rfl)
 have h38:∀ a ∈ (V8 l CS).Chains,f36 a=some false:=fun a ha=>by
  have ha:a=⟨⟨[114,111,115,101]⟩,⟨l.Design.Hooks,CS⟩⟩:=by simpa [V8] using ha
  subst ha
  refine Yes.eq ?_
  unfold f36
  exact Gv _ h39 (Yes.some rfl)
 refine Yes.eq ?_
 unfold f19
 refine Yes.jn (Yes.bind (T7 rfl (Yes.some (T7 rfl ?_))))
 refine Gv _ (n40 _) (Gv _ (n42 _) (Yes.jn (Yes.bind ?_)))
 refine Gv _ n44a (T7 rfl (Gv _ n44b (T7 rfl ?_)))
 refine Gv _ (b45 _ _ (fun _=>false) (by show 1 < _; omega) h36) (T7 rfl (Gv _ (b46 _ _ (fun _=>false) (by show 1 < _; omega) h38) (Yes.some (T7 rfl (Yes.some rfl)))))
def Je (H:Nat) (l:FaultLoom) (CS:List Z8):List Str:=(CS.map (Ua H)).map (lnz l.Harness.Warps)
theorem s21g (hH : 1 ≤ H ∧ H ≤ 8) (h : L6 H l) (hb : B3 H ⟨l.Design.Hooks, CS⟩) {c : Z5} (hc : c.Chain = 0 ∧ c.Tie = 0) (hn : c.Picks = (CS.length : Int)) {cy : T0} (hcy : (bif cy.chain != w64 (c.Chain + 1) then (⟨w64 (c.Chain + 1), 0⟩ : T0) else cy) = ⟨1, 0⟩) :
  f21 cy (V8 l CS) c=some (Je H l CS,0,⟨1,0⟩):=by
 have hd:=h.1
 have hk:=h.2
 have h12:1 ≤ CS.length∧CS.length ≤ 12:=hb.2.1
 have hrl0:(CS.map (Ua H)).length=CS.length:=List.length_map _
 have hb:B3 H ⟨(H:Int),CS⟩:=hd.1 ▸ hb
 refine Yes.eq ?_
 unfold f21
 have e1:idx (V8 l CS).Chains c.Chain=some ⟨⟨[114,111,115,101]⟩,⟨l.Design.Hooks,CS⟩⟩:=by rw [hc.1]; rfl
 have e2:idx (V8 l CS).Ties c.Tie=some ⟨⟨[108,105,108,121]⟩,l.Harness⟩:=by rw [hc.2]; rfl
 refine Gv _ e1 (Gv _ e2 (T7 ?_ (Yes.bind (Yes.some ?_))))
 ·show (l.Design.Hooks != l.Harness.Hooks) = false
  rw [hk.1,hd.1]; simp
 rw [hcy,hn]
 refine Gv _ (s50r (by omega)) ?_
 have hw:=g11g (H:=H) hH hb (a:=0) (by omega) (ss:=List.replicate (CS.length:Int).toNat 1) (fun s hs=>by rw [List.eq_of_mem_replicate hs]; omega) (by rw [List.length_replicate]; omega)
 rw [Int.toNat_natCast,Mn (by omega) (by omega),Av (by omega),Nat.zero_add,Nat.mod_self,List.drop_zero,List.take_of_length_le (by omega)] at hw
 have hw:f47 ⟨l.Design.Hooks,CS⟩ (0:Int) ((List.replicate (CS.length:Int).toNat 1).map fun s:Nat=>(s:Int))=some (CS.map (Ua H),0,0):=by rw [hd.1,Int.toNat_natCast]; exact hw
 refine Gv _ hw (T7 rfl ?_)
 have hdo:DOkz H ⟨l.Design.Hooks,CS.map (Ua H)⟩:=⟨hd.1,by show 1 ≤ (CS.map (Ua H)).length∧(CS.map (Ua H)).length ≤ 30; omega,E3 hH hb⟩
 exact Gv _ (g15z (by omega) hk hdo) (Yes.some rfl)
theorem s8g (hH : 1 ≤ H ∧ H ≤ 8) (h : L6 H l) (hb : B3 H ⟨l.Design.Hooks, CS⟩) {logs : List (List UInt8)} (hj : f20 logs = some ([⟨0, 0, 0, 0, (CS.length : Int)⟩, ⟨3, 0, 0, 0, (CS.length : Int)⟩], 0, 0)) :
  Yes (f8 (V8 l CS) logs) fun r=>r.2.2=0∧r.1.length=16∧idx r.1 0=some (Je H l CS ++ Je H l CS):=by
 have h12:1 ≤ CS.length∧CS.length ≤ 12:=hb.2.1
 have hbl:(Je H l CS).length=CS.length:=by simp [Je]
 unfold f8
 refine Gv _ (s18g (by omega) h hb) (T7 rfl (Gv _ hj (T7 rfl ?_)))
 have w1:w64 ((0:Int) + 1)=1:=by kernel_rfl
 refine Yes.upto 2 (by omega) (fun i z=>z.1=(List.replicate 16 (⟨0,0⟩:T0)).set 0 (if i=0 then ⟨0,0⟩ else ⟨1,0⟩)∧z.2=(List.replicate 16 ([]:List Str)).set 0 ((List.replicate i (Je H l CS)).flatten)) ⟨rfl,rfl⟩ (fun i z k hi hI hk=>?_) (fun z k hI=>?_)
 ·obtain ⟨z1, z2⟩ := z
  obtain ⟨h1,h2⟩:=hI
  simp only at h1 h2
  subst h1; subst h2
  obtain ⟨c,hc,hc1,hc2,hc3,hc4⟩:∃ c:Z5,idx ([⟨0,0,0,0,(CS.length:Int)⟩,⟨3,0,0,0,(CS.length:Int)⟩]:List Z5) (i:Int)=some c∧c.Chain=0∧c.Tie=0∧c.Picks=(CS.length:Int)∧c.Loom=0:=by
   rcases (by omega:i=0 ∨ i=1) with rfl | rfl
   ·exact ⟨_,rfl,rfl,rfl,rfl,rfl⟩
   ·exact ⟨_,rfl,rfl,rfl,rfl,rfl⟩
  refine K3 (decide_eq_true (by show (i:Int) < 2; omega)) (Gv _ hc (T7 (by rw [hc1,hc2]; rfl) ?_))
  rw [hc4]
  refine Gv (if i=0 then ⟨0,0⟩ else ⟨1,0⟩) rfl ?_
  have hs:=s21g hH h hb (c:=c) ⟨hc1,hc2⟩ hc3 (cy:=if i=0 then ⟨0,0⟩ else ⟨1,0⟩) (by rw [hc1,w1]; by_cases h0:i=0 <;> simp [h0])
  refine Gv _ hs (T7 rfl (Gv ((List.replicate i (Je H l CS)).flatten) rfl (Yes.bind (Yes.apnd ?_ ?_ (hk (_,_) ⟨?_,?_⟩)))))
  ·rcases (by omega : i = 0 ∨ i = 1) with rfl | rfl
   ·simp [hbl]; omega
   ·simp [List.replicate,hbl]; omega
  ·rcases (by omega : i = 0 ∨ i = 1) with rfl | rfl
   ·simp [hbl]; omega
   ·simp [List.replicate,hbl]; omega
  ·rcases (by omega:i=0 ∨ i=1) with rfl | rfl <;> rfl
  ·rcases (by omega:i=0 ∨ i=1) with rfl | rfl <;> simp [List.replicate]
 ·obtain ⟨z1, z2⟩ := z
  obtain ⟨h1,h2⟩:=hI
  simp only at h1 h2
  subst h2
  refine T7 (decide_eq_false (by show ¬ (2:Int) < 2; omega)) (Yes.some ⟨rfl,rfl,?_⟩)
  show some ((List.replicate 2 (Je H l CS)).flatten)=_
  simp [List.replicate_succ]
end
end Go.Proofs.YtepehlhgkipcoaaGreatDoor
