/- TopRibbonFault: the damage; a damaged card weaves as the loom with this damage. -/
import Derived.Test.YtepehlhgkipcoaaGreatDoorRfB1
set_option maxRecDepth 8000
namespace Go.Proofs.YtepehlhgkipcoaaGreatDoor
open Go.RowKit
open Classical
theorem M1:f12=some true:=by kernel_rfl
section
variable {H:Nat} {l:FaultLoom}
theorem good6 (hH:1 ≤ H∧H ≤ 8) (h:L6 H l):H2 l:=by
 obtain ⟨⟨h1,h2,h3⟩,k1,k2,k3⟩:=h
 have hHn:l.Design.Hooks.toNat=H:=by rw [h1]; simp
 refine ⟨by omega,by omega,by rw [k1,h1],by omega,by omega,by omega,by omega,fun x hx=>?_,fun x hx=>?_⟩
 ·have := k3 x hx
  omega
 ·have := h3 x hx
  rw [hHn]
  have e:((2 ^ H:Nat):Int)=(2:Int) ^ H:=by norm_cast
  rw [← e]; exact this
theorem s10g (h:L6 H l):f10 l=some l:=by
 obtain ⟨⟨h1,h2,h3⟩,k1,k2,k3⟩:=h
 refine Yes.eq ?_
 unfold f10
 refine Gv _ (s21m _ (by omega)) (Gv l.Design ?_ (Yes.some rfl))
 refine Yes.eq ?_
 unfold f24
 exact Yes.bind (Yes.apnd (by simp; omega) (by simp; omega) (Yes.some (by simp)))
theorem pj_is (a:UInt8):∃ p,Cg a 2=some p∧(p=0 ∨ p=1):=by
 refine ⟨a % 2,rfl,?_⟩
 have h:(a % 2).toNat=a.toNat % 2:=by simp
 rcases Nat.mod_two_eq_zero_or_one a.toNat with e | e
 ·left; exact UInt8.toNat_inj.1 (by rw [h,e]; rfl)
 ·right; exact UInt8.toNat_inj.1 (by rw [h,e]; rfl)
theorem s5d (hH : 1 ≤ H ∧ H ≤ 8) (h : L6 H l) {p a b : UInt8} (hp : p = 0 ∨ p = 1) :
  Yes (f5 l ⟨List.toArray [2 * p,a,b],rfl⟩) fun d=>(∃ q k:Nat,d=⟨1,q,k,0,false⟩∧q < l.Design.Rows.length∧k < H) ∨ ∃ q:Nat,d=⟨3,q,0,0,false⟩∧q < l.Design.Rows.length:=by
 obtain ⟨⟨h1,h2,h3⟩,k1,k2,k3⟩:=h
 have hm:Hd ((a.toNat:Nat):Int) (l.Design.Rows.length:Int)=some ((a.toNat % l.Design.Rows.length:Nat):Int):=by
  rw [D4 (by omega) (by omega)]; norm_cast
 have hb:Hd ((b.toNat:Nat):Int) l.Design.Hooks=some ((b.toNat % H:Nat):Int):=by
  rw [D4 (by omega) (by omega),h1]; norm_cast
 have l1:=Nat.mod_lt a.toNat (show 0 < l.Design.Rows.length by omega)
 have l2:=Nat.mod_lt b.toNat (show 0 < H by omega)
 unfold f5
 rcases hp with rfl | rfl
 ·refine Gv (0 : UInt8) rfl (Gv (0 : UInt8) rfl (Yes.bind ?_))
  exact K3 rfl (Gv a rfl (Gv _ hm (Gv b rfl (Gv _ hb (Yes.some (Yes.some (.inl ⟨_,_,rfl,l1,l2⟩)))))))
 ·refine Gv (2 : UInt8) rfl (Gv (2 : UInt8) rfl (Yes.bind ?_))
  exact T7 rfl (T7 rfl (T7 rfl (Gv a rfl (Gv _ hm (Yes.some (Yes.some (.inr ⟨_,rfl,l1⟩)))))))
/-! ### The lines -/
theorem Md (g:H2 l) {r:Int} {c:Nat→Bool} (h:∀ w,w < l.Harness.Warps.length→r.toNat.testBit (hkF l w)=c w):lnz l.Harness.Warps r=Wi l.Harness.Warps.length c:=by
 unfold lnz Wi
 congr 1
 refine List.ext_getElem (by simp) fun w h1 h2=>?_
 rw [List.length_map] at h1
 rw [List.getElem_map,List.getElem_map,List.getElem_range]
 have hk:=(Fi g h1).1
 unfold Px
 rw [hk,Int.toNat_natCast,h w h1]
 rfl
def cdx (R:List Int) (q:Nat) (c:Z8):List Z8:=(Hw R).set q c
theorem Az {R:List Int} {q:Nat} {c:Z8}:(cdx R q c).length=R.length:=by unfold cdx; rw [List.length_set,Hv]
theorem cdx_ok {d:Design} (h:D6 H d) {q:Nat} (hq:q < d.Rows.length) {c:Z8} (hc:(0 ≤ c.Number∧c.Number ≤ 59)∧0 ≤ c.Row∧c.Row < ((2 ^ H:Nat):Int)):B3 H ⟨d.Hooks,cdx d.Rows q c⟩:=by
 have hb:=bok6 h
 refine ⟨hb.1,by show 1 ≤ (cdx d.Rows q c).length∧(cdx d.Rows q c).length ≤ 12; rw [Az]; exact h.2.1,fun x hx=>?_⟩
 rcases List.mem_or_eq_of_mem_set hx with h1 | h1
 ·exact hb.2.2 x h1
 ·rw [h1]; exact hc
theorem cdx_at {R:List Int} {q:Nat} {c:Z8} {i:Nat} (hi:i < R.length):((cdx R q c).map (Ua H))[i]?=some (if i=q then Ua H c else R[i]):=by
 have hl:i < (Hw R).length:=by rw [Hv]; exact hi
 unfold cdx
 rw [List.getElem?_map,List.getElem?_set]
 by_cases h:q=i
 ·subst h
  rw [if_pos rfl,if_pos hl,if_pos rfl]; rfl
 ·rw [if_neg h,if_neg (fun e=>h e.symm),List.getElem?_eq_getElem hl,Dh hl hi]; rfl
theorem blk_at (g : H2 l) {q : Nat} {c : Z8} {ds : List Zv} (he : ∀ i, (hi : i < l.Design.Rows.length) → ∀ w, w < l.Harness.Warps.length → ((if i = q then Ua H c else l.Design.Rows[i]) : Int).toNat.testBit (hkF l w) = rcF l ds i w) :
  ∀ i,i < l.Design.Rows.length→(Je H l (cdx l.Design.Rows q c))[i]?=some (Wi l.Harness.Warps.length (rcF l ds i)):=fun i hi=>by
 unfold Je
 rw [List.getElem?_map,cdx_at hi,Option.map_some,Md g (he i hi)]
theorem Ik (g:H2 l) (h:D6 H l.Design):∀ i,i < l.Design.Rows.length→(Je H l (Hw l.Design.Rows))[i]?=some (Wi l.Harness.Warps.length (rcF l [] i)):=fun i hi=>by
 have hl:i < (Hw l.Design.Rows).length:=by rw [Hv]; exact hi
 unfold Je
 rw [List.getElem?_map,List.getElem?_map,List.getElem?_eq_getElem hl,Dh hl hi,Option.map_some,Option.map_some]
 show some (lnz l.Harness.Warps (l.Design.Rows[i]))=_
 rw [Md g fun w hw=>?_]
 rw [Ec]
 unfold Rv
 rw [List.getElem?_eq_getElem hi]; rfl
theorem Xq (h:D6 H l.Design) {i:Nat} (hi:i < l.Design.Rows.length):∃ r:Nat,l.Design.Rows[i]=(r:Int)∧r < 2 ^ H∧∀ k,Rv l i k=r.testBit k:=by
 have:=h.2.2 _ (List.getElem_mem hi)
 refine ⟨(l.Design.Rows[i]).toNat,by omega,by omega,fun k=>?_⟩
 unfold Rv
 rw [List.getElem?_eq_getElem hi]; rfl
theorem E7 (hH : 1 ≤ H ∧ H ≤ 8) (g : H2 l) (h : D6 H l.Design) {q k : Nat} (hq : q < l.Design.Rows.length) (hk : k < H) {r : Nat} (hr : l.Design.Rows[q] = (r : Int)) :
  ∀ i,(hi:i < l.Design.Rows.length)→∀ w,w < l.Harness.Warps.length→((if i=q then Ua H ⟨q,((r ^^^ 2 ^ k:Nat):Int),false⟩ else l.Design.Rows[i]):Int).toNat.testBit (hkF l w)=rcF l [⟨1,q,k,0,false⟩] i w:=fun i hi w hw=>by
 rw [A7,actT_1F rfl,Ld (show (1:Int) ≠ 5 by decide)]
 show _=(Bn q k (Rv l) i (hkF l w) && !false)
 rw [Bool.not_false,Bool.and_true]
 obtain ⟨r',hr',_,ht⟩:=Xq h hi
 unfold Bn
 by_cases e:i=q
 ·subst e
  obtain rfl:r'=r:=by omega
  rw [if_pos rfl]
  show (((r' ^^^ 2 ^ k:Nat):Int)).toNat.testBit (hkF l w)=_
  rw [Int.toNat_natCast,Nat.testBit_xor,Nat.testBit_two_pow,ht]
  by_cases e2:hkF l w=k
  ·rw [if_pos ⟨rfl,e2⟩,decide_eq_true e2.symm,Bool.xor_true]
  ·rw [if_neg (fun h=>e2 h.2),decide_eq_false (fun h=>e2 h.symm),Bool.xor_false]
 ·rw [if_neg e,if_neg (fun h=>e h.1),hr',Int.toNat_natCast,ht]
theorem Es (hH : 1 ≤ H ∧ H ≤ 8) (g : H2 l) (h : D6 H l.Design) {q : Nat} (hq : q < l.Design.Rows.length) {r : Nat} (hr : l.Design.Rows[q] = (r : Int)) (hr2 : r < 2 ^ H) :
  ∀ i,(hi:i < l.Design.Rows.length)→∀ w,w < l.Harness.Warps.length→((if i=q then Ua H ⟨q,(r:Int),true⟩ else l.Design.Rows[i]):Int).toNat.testBit (hkF l w)=rcF l [⟨3,q,0,0,false⟩] i w:=fun i hi w hw=>by
 have hHn:l.Design.Hooks.toNat=H:=by rw [h.1]; simp
 have hkw:=(Fi g hw).2
 rw [A7,actT_3F rfl,Ld (show (3:Int) ≠ 5 by decide)]
 show _=(Sz l.Design.Hooks.toNat q (Rv l) i (hkF l w) && !false)
 rw [Bool.not_false,Bool.and_true,hHn]
 rw [hHn] at hkw
 obtain ⟨r',hr',_,ht⟩:=Xq h hi
 unfold Sz
 by_cases e:i=q
 ·subst e
  obtain rfl:r'=r:=by omega
  rw [if_pos rfl,if_pos rfl]
  show (((Pe H ((r':Int)).toNat:Nat):Int)).toNat.testBit (hkF l w)=_
  rw [Int.toNat_natCast,Int.toNat_natCast,(P5 hH hr2).2.2 _ hkw,ht]
 ·rw [if_neg e,if_neg e,hr',Int.toNat_natCast,ht]
end
end Go.Proofs.YtepehlhgkipcoaaGreatDoor
