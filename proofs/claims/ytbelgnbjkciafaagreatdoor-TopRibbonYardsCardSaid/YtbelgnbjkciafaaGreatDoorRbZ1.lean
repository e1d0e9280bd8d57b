/- Laws of plain functions, part 1. -/
import Derived.Test.YtbelgnbjkciafaaGreatDoorRbD
set_option maxRecDepth 8000
namespace Go.Proofs.YtbelgnbjkciafaaGreatDoor
open Go.RowKit
open Classical
theorem qskipz {α:Type} {Q:α→Prop} {c:Bool} {X Y:Option α} (hc:c=false) (h:Yes Y Q):Yes (bif c then X else Y) Q:=by rw [hc]; exact h
theorem qtakez {α:Type} {Q:α→Prop} {c:Bool} {X Y:Option α} (hc:c=true) (h:Yes X Q):Yes (bif c then X else Y) Q:=by rw [hc]; exact h
theorem qbindz {α β:Type} {Q:β→Prop} {x:Option α} {f:α→Option β} (a:α) (h:x=some a) (k:Yes (f a) Q):Yes (x.bind f) Q:=by rw [h]; exact k
theorem qidxz {α:Type} {xs:List α} {i:Nat} (h:i < xs.length):idx xs (i:Int)=some xs[i]:=by unfold idx; rw [if_pos (Int.natCast_nonneg i)]; exact List.getElem?_eq_getElem h
theorem rem_nnz {a b:Int} (ha:0 ≤ a) (hb:0 < b):rem64 a b=some (a % b):=by
 unfold rem64; rw [if_neg (by omega),Int.tmod_eq_emod_of_nonneg ha]
theorem take_succz {α:Type} {xs:List α} {i:Nat} (h:i < xs.length):xs.take (i + 1)=xs.take i ++ [xs[i]]:=by
 rw [List.take_add_one,List.getElem?_eq_getElem h]; rfl
def btwz (a b x:Int):Bool:=decide (a ≤ x∧x ≤ b)
theorem btw_iffz {a b x:Int}:btwz a b x=true ↔ a ≤ x∧x ≤ b:=by simp [btwz]
theorem c165z (xs:List Int) (φ:Int→Option Bool) (p:Int→Bool) (hl:xs.length < 9223372036854775807) (h:∀ a ∈ xs,φ a=some (p a)):f56 xs φ=some (xs.any p):=
 Yes.eq (Yes.bind (Yes.mono (index_is xs φ p hl h) fun _ hr=>Yes.some (index_any hr)))
theorem c250z (xs:List ChainCard) (φ:ChainCard→Option Bool) (p:ChainCard→Bool) (hl:xs.length < 9223372036854775807) (h:∀ a ∈ xs,φ a=some (p a)):f130 xs φ=some (xs.any p):=
 Yes.eq (Yes.bind (Yes.mono (index_is xs φ p hl h) fun _ hr=>Yes.some (index_any hr)))
theorem b192z (x a b:Int):f119 x a b=some (!btwz a b x):=by unfold f119 btwz; by_cases h1:x < a <;> by_cases h2:x > b <;> simp [h1,h2] <;> omega
theorem c112z (a b:Int) (xs:List Int) (hl:xs.length < 9223372036854775807) (h:∀ x ∈ xs,a ≤ x∧x ≤ b):f86 a b xs=some true:=by
 unfold f86
 rw [c165z xs _ (fun x=>!btwz a b x) hl fun x _=>b192z x a b]
 simp only [Option.bind_some,Option.some.injEq,Bool.not_eq_true',List.any_eq_false]
 exact fun x hx=>by rw [btw_iffz.2 (h x hx)]; simp
theorem b179z (x a b:Int):f140 x a b=some (!btwz a b x):=by unfold f140 btwz; by_cases h1:x < a <;> by_cases h2:x > b <;> simp [h1,h2] <;> omega
theorem c103z (a b:Int) (xs:List Int) (hl:xs.length < 9223372036854775807) (h:∀ x ∈ xs,a ≤ x∧x ≤ b):f123 a b xs=some true:=by
 unfold f123
 rw [c165z xs _ (fun x=>!btwz a b x) hl fun x _=>b179z x a b]
 simp only [Option.bind_some,Option.some.injEq,Bool.not_eq_true',List.any_eq_false]
 exact fun x hx=>by rw [btw_iffz.2 (h x hx)]; simp
theorem b241z (x a b:Int):f100 x a b=some (!btwz a b x):=by unfold f100 btwz; by_cases h1:x < a <;> by_cases h2:x > b <;> simp [h1,h2] <;> omega
theorem c184z (a b:Int) (xs:List Int) (hl:xs.length < 9223372036854775807) (h:∀ x ∈ xs,a ≤ x∧x ≤ b):f73 a b xs=some true:=by
 unfold f73
 rw [c165z xs _ (fun x=>!btwz a b x) hl fun x _=>b241z x a b]
 simp only [Option.bind_some,Option.some.injEq,Bool.not_eq_true',List.any_eq_false]
 exact fun x hx=>by rw [btw_iffz.2 (h x hx)]; simp
theorem shl_smallz {n:Nat} (h:n ≤ 24):shl64 (1:Int) (n:Int)=some ((2 ^ n:Nat):Int):=by
 unfold shl64
 rw [if_neg (by omega),Int.toNat_natCast,show min n 64=n by omega]
 have h1:2 ^ n ≤ 16777216:=Nat.pow_le_pow_right (n:=2) (by omega) h
 have h2:(1:Int) * 2 ^ n=((2 ^ n:Nat):Int):=by rw [Int.one_mul]; norm_cast
 rw [h2]
 generalize 2 ^ n=b at h1 ⊢
 rw [w64_id (by omega) (by omega)]
theorem pow_rngz {H:Nat} (h:H ≤ 12):1 ≤ 2 ^ H∧2 ^ H ≤ 4096:=⟨Nat.one_le_two_pow,Nat.pow_le_pow_right (n:=2) (by omega) h⟩
def HOkz (H:Nat) (h:TieHarness):Prop:=h.Hooks=H∧(1 ≤ h.Warps.length∧h.Warps.length ≤ 96)∧∀ a ∈ h.Warps,0 ≤ a∧a ≤ (H:Int) - 1
def DOkz (H:Nat) (d:Design):Prop:=d.Hooks=H∧(1 ≤ d.Rows.length∧d.Rows.length ≤ 30)∧∀ r ∈ d.Rows,0 ≤ r∧r < ((2 ^ H:Nat):Int)
theorem c105z {H:Nat} {h:TieHarness} (hH:1 ≤ H∧H ≤ 12) (hkz:HOkz H h):f37 h=some 0:=by
 obtain ⟨k1,k2,k3⟩:=hkz
 refine Yes.eq ?_
 unfold f37
 refine Yes.jn (qbindz true (c184z _ _ _ (by simp) fun a ha=>by rw [List.mem_singleton.1 ha,k1]; omega) (qskipz rfl (qskipz (decide_eq_false (by omega)) (qskipz (beq_eq_false_iff_ne.2 (by omega)) (qbindz true (c184z _ _ _ (by omega) fun a ha=>?_) (qskipz rfl (Yes.some rfl)))))))
 rw [k1,w64_id (by omega) (by omega)]; exact k3 a ha
theorem c102z {H:Nat} {d:Design} (hH:1 ≤ H∧H ≤ 12) (hd:DOkz H d):f90 d=some 0:=by
 obtain ⟨k1,k2,k3⟩:=hd
 have hp:=pow_rngz hH.2
 refine Yes.eq ?_
 unfold f90
 refine Yes.jn (qbindz true (c103z _ _ _ (by simp) fun a ha=>by rw [List.mem_singleton.1 ha,k1]; omega) (qskipz rfl (qskipz (decide_eq_false (by omega)) (qskipz (beq_eq_false_iff_ne.2 (by omega)) ?_))))
 rw [k1]
 refine qbindz _ (shl_smallz (by omega)) (qbindz true (c103z _ _ _ (by omega) fun a ha=>?_) (qskipz rfl (Yes.some rfl)))
 rw [w64_id (by omega) (by omega)]
 have:=k3 a ha
 omega
def crdz (rs:List Int):List ChainCard:=rs.mapIdx fun i r=>⟨i,r,false⟩
theorem crd_lenz (rs:List Int):(crdz rs).length=rs.length:=by simp [crdz]
theorem crd_atz {rs:List Int} {i:Nat} (h:i < (crdz rs).length) (h':i < rs.length):(crdz rs)[i]=⟨i,rs[i],false⟩:=by simp [crdz]
theorem c109z {H:Nat} (h:1 ≤ H∧H ≤ 12):f101 (H:Int)=some true:=by
 unfold f101
 rw [c112z _ _ _ (by simp) fun a ha=>by rw [List.mem_singleton.1 ha]; omega]
 rfl
theorem c110z {H:Nat} (h:1 ≤ H∧H ≤ 12) {xs:List Int} (hl:xs.length ≤ 1000) (hx:∀ r ∈ xs,0 ≤ r∧r < ((2 ^ H:Nat):Int)):f129 (H:Int) xs=some true:=by
 have hp:=pow_rngz h.2
 refine Yes.eq ?_
 unfold f129
 refine qbindz _ (shl_smallz (by omega)) (qbindz true (c112z _ _ _ (by omega) fun a ha=>?_) (Yes.some rfl))
 rw [w64_id (by omega) (by omega)]
 have:=hx a ha
 omega
def BOkz (H:Nat) (b:ChainBelt):Prop:=b.Hooks=H∧(1 ≤ b.Cards.length∧b.Cards.length ≤ 12)∧∀ c ∈ b.Cards,(0 ≤ c.Number∧c.Number ≤ 59)∧0 ≤ c.Row∧c.Row < ((2 ^ H:Nat):Int)
theorem c111z {H:Nat} (hH:1 ≤ H∧H ≤ 12) {b:ChainBelt} (h:BOkz H b):f74 b=some (⟨b,b.Hooks⟩,0):=by
 obtain ⟨h1,h2,h3⟩:=h
 refine Yes.eq ?_
 unfold f74
 have t1:∀ x y z:Int,x ≤ z→z ≤ y→∀ a ∈ ([z]:List Int),x ≤ a∧a ≤ y:=fun x y z h1 h2 a ha=>by rw [List.mem_singleton.1 ha]; exact ⟨h1,h2⟩
 have h249:∀ c ∈ b.Cards,f128 c (H:Int)=some false:=fun c hc=>by
  have hc:=h3 c hc
  refine Yes.eq ?_
  unfold f128
  refine Yes.bind (qbindz true (c112z _ _ _ (by simp) (t1 _ _ _ (by omega) (by omega))) (qskipz rfl (qbindz true (c110z hH (by simp) fun r hr=>?_) (Yes.some (Yes.some rfl)))))
  rw [List.mem_singleton.1 hr]; exact hc.2
 have h191:f102 (H:Int) b.Cards=some true:=by
  refine Yes.eq ?_
  unfold f102
  refine Yes.bind (qtakez (decide_eq_true (by omega)) (qbindz _ (c250z b.Cards _ (fun _=>false) (by omega) h249) (Yes.some (Yes.some ?_))))
  simp
 refine Yes.jn (qbindz true (by rw [h1]; exact c109z hH) (qskipz rfl (qskipz (decide_eq_false (by omega)) (qbindz true (by rw [h1]; exact h191) (qskipz rfl (Yes.some rfl))))))
theorem pow62z:(2:Nat) ^ 62=4611686018427387904:=by decide
theorem ofInt_smallz {a:Nat} (ha:a < 2 ^ 62):(BitVec.ofInt 64 (a:Int)).toNat=a:=by
 rw [BitVec.ofInt_natCast,BitVec.toNat_ofNat]
 exact Nat.mod_eq_of_lt (by rw [pow62z] at ha; omega)
theorem and64z {a b:Nat} (ha:a < 2 ^ 62) (hb:b < 2 ^ 62):bit64 .and a b=((a &&& b:Nat):Int):=by
 have hx:a &&& b < 2 ^ 62:=Nat.and_lt_two_pow a hb
 unfold bit64
 simp only [BitVec.toNat_and,ofInt_smallz ha,ofInt_smallz hb]
 rw [pow62z] at hx
 exact w64_id (by omega) (by omega)
theorem shr_bitz {a h:Nat} (hh:h < 62):shr64 (a:Int) (h:Int)=some ((a >>> h:Nat):Int):=by
 unfold shr64
 rw [if_neg (by omega),show min (h:Int).toNat 64=h by simp; omega]
 congr 1
 rw [show ((2:Int) ^ h)=((2 ^ h:Nat):Int) by simp,Nat.shiftRight_eq_div_pow]
 generalize 2 ^ h=q
 rw [Int.fdiv_eq_ediv_of_nonneg _ (by omega)]
 exact (Int.natCast_ediv a q).symm
theorem and_onez (a:Nat):(((a &&& 1:Nat):Int) == (1:Int))=a.testBit 0:=by
 rw [Bool.eq_iff_iff,Nat.and_one_is_mod]
 simp [Nat.testBit_zero]
 omega
def bitz (r k:Int):Bool:=r.toNat.testBit k.toNat
theorem lift_bitz {r k:Int} (hr:0 ≤ r∧r < 4096) (hkz:0 ≤ k∧k < 62):∃ y,shr64 r k=some y∧(bit64 .and y 1 == (1:Int))=bitz r k:=by
 obtain ⟨a,rfl⟩:=Int.eq_ofNat_of_zero_le hr.1
 obtain ⟨h,rfl⟩:=Int.eq_ofNat_of_zero_le hkz.1
 refine ⟨_,shr_bitz (by omega),?_⟩
 have hs:a >>> h < 2 ^ 62:=Nat.lt_of_le_of_lt (Nat.shiftRight_le a _) (by rw [pow62z]; omega)
 rw [show (1:Int)=((1:Nat):Int) from rfl,and64z hs (by decide)]
 show (((a >>> h &&& 1:Nat):Int) == (1:Int))=_
 rw [and_onez,Nat.testBit_shiftRight,Nat.add_zero]
 rfl
def mkz (b:Bool):UInt8:=if b then 120 else 46
def lnz (W:List Int) (r:Int):Str:=⟨W.map fun k=>mkz (bitz r k)⟩
def wvz (W:List Int) (rows:List Int):List Str:=rows.map (lnz W)
theorem g53z {H:Nat} {h:TieHarness} {r:Int} (hH:H ≤ 12) (hkz:HOkz H h) (hr:0 ≤ r∧r < 4096):f91 ⟨h⟩ r=some (lnz h.Warps r):=by
 obtain ⟨k1,k2,k3⟩:=hkz
 refine Yes.eq ?_
 unfold f91
 refine Yes.bind (Yes.mono (Q':=fun s=>s=h.Warps.map fun k=>mkz (bitz r k)) ?_ fun s hs=>?_)
 ·refine Yes.upto h.Warps.length (by omega) (fun i s => s = (h.Warps.take i).map fun k => mkz (bitz r k)) rfl (fun i s k hi hI hkz => ?_) (fun s k hI => ?_)
  ·have hl : s.length = i := by rw [hI]; simp; omega
   obtain ⟨y,hy,hyb⟩:=lift_bitz hr (k:=h.Warps[i]) (by have:=k3 _ (List.getElem_mem hi); omega)
   refine qtakez (decide_eq_true (by show (i:Int) < (h.Warps.length:Int); omega)) (Yes.bind (Yes.bind (Yes.mono (Q':=fun b=>b=bitz r h.Warps[i]) ?_ fun b hb=>Yes.bind (Yes.mono (Q':=fun c=>c=mkz b) ?_ fun c hc=>Yes.bind (Yes.apnd (by rw [hl]; simp; omega) (by rw [hl]; simp; omega) (Yes.some (hkz _ ?_)))))))
   ·unfold f125
    exact qbindz _ (qidxz hi) (qbindz _ hy (Yes.some hyb))
   ·unfold f124
    cases b
    ·exact Yes.jn (qskipz rfl (Yes.some rfl))
    ·exact Yes.jn (qtakez rfl (Yes.some rfl))
   ·rw [hI,take_succz hi,List.map_append,hc,hb]; rfl
  ·exact qskipz (decide_eq_false (by show ¬ (h.Warps.length:Int) < (h.Warps.length:Int); omega)) (Yes.some (by rw [hI,List.take_length]))
 ·subst hs
  have:sbstr (h.Warps.map fun k=>mkz (bitz r k))=some (lnz h.Warps r):=by
   unfold sbstr
   rw [if_neg fun e=>by have:=congrArg List.length e; rw [List.length_map,List.length_nil] at this; omega]
   rfl
  exact qbindz _ this (Yes.some rfl)
theorem g15z {H:Nat} {h:TieHarness} {d:Design} (hH:1 ≤ H∧H ≤ 12) (hkz:HOkz H h) (hd:DOkz H d):f51 h d=some (wvz h.Warps d.Rows,0):=by
 have h12:=hd.2.1
 have hp:=pow_rngz hH.2
 refine Yes.eq ?_
 unfold f51
 refine Yes.jn (qbindz _ (c105z hH hkz) (qskipz rfl (Yes.jn (qbindz _ (c102z hH hd) (qskipz rfl (qskipz ?_ ?_))))))
 ·rw [hd.1,hkz.1]; simp
 ·refine Yes.bind (Yes.mono (Q' := fun s => s = wvz h.Warps d.Rows) ?_ fun s hs => Yes.some (by rw [hs]))
  refine Yes.upto d.Rows.length (by omega) (fun i s=>s=wvz h.Warps (d.Rows.take i)) rfl (fun i s k hi hI hk2=>?_) (fun s k hI=>qskipz (decide_eq_false (by omega)) (Yes.some (by rw [hI,List.take_length])))
  have hl:s.length=i:=by rw [hI]; simp [wvz]; omega
  have hr:=hd.2.2 _ (List.getElem_mem hi)
  refine qtakez (decide_eq_true (by omega)) (Yes.bind (qbindz _ (qidxz hi) (qbindz _ (g53z hH.2 hkz (by omega)) (Yes.bind (Yes.apnd (by rw [hl]; simp; omega) (by rw [hl]; simp; omega) (Yes.some (hk2 _ ?_)))))))
  rw [hI,take_succz hi]
  unfold wvz
  rw [List.map_append]
  rfl
theorem lift_zz {H:Int} {R:List Int} {a:Nat} (ha:a < R.length):f87 ⟨⟨H,crdz R⟩,H⟩ (a:Int)=some R[a]:=by
 have hl:a < (crdz R).length:=by rw [crd_lenz]; exact ha
 refine Yes.eq ?_
 unfold f87
 refine Yes.jn (qbindz _ (qidxz hl) ?_)
 rw [crd_atz hl ha]
 exact qskipz rfl (qbindz _ (qidxz hl) (Yes.some (by rw [crd_atz hl ha])))
theorem after_zz {H:Int} {R:List Int} {a s:Nat} (ha:a < R.length) (hn:R.length ≤ 1000) (hs:s ≤ 2):f88 ⟨⟨H,crdz R⟩,H⟩ (a:Int) (s:Int)=some (((a + s) % R.length:Nat):Int):=by
 refine Yes.eq ?_
 unfold f88
 rw [w64_id (n:=(a:Int) + s) (by omega) (by omega)]
 show Yes ((rem64 _ ((crdz R).length:Int)).bind _) _
 rw [crd_lenz]
 refine qbindz _ (rem_nnz (by omega) (by omega)) (Yes.some ?_)
 norm_cast
def wkz (R : List Int) : Nat → List Nat → List Int
 | _,[]=>[]
 | a,s :: ss=>R.getD a 0 :: wkz R ((a + s) % R.length) ss
def epz (n : Nat) : Nat → List Nat → Nat
 | a,[]=>a
 | a,s :: ss=>epz n ((a + s) % n) ss
theorem wk_snocz {R : List Int} : ∀ {ss : List Nat} {a s : Nat}, wkz R a (ss ++ [s]) = wkz R a ss ++ [R.getD (epz R.length a ss) 0]
 | [],_,_=>rfl
 | t :: ss,a,s=>by rw [List.cons_append,wkz,wkz,epz,wk_snocz]; rfl
theorem ep_snocz {n : Nat} : ∀ {ss : List Nat} {a s : Nat}, epz n a (ss ++ [s]) = (epz n a ss + s) % n
 | [],_,_=>rfl
 | t :: ss,a,s=>by rw [List.cons_append,epz,epz,ep_snocz]
theorem wk_lenz {R : List Int} : ∀ {ss : List Nat} {a : Nat}, (wkz R a ss).length = ss.length
 | [],_=>rfl
 | t :: ss,a=>by rw [wkz,List.length_cons,wk_lenz]; rfl
theorem ep_ltz {n : Nat} (hn : 0 < n) : ∀ {ss : List Nat} {a : Nat}, a < n → epz n a ss < n
 | [],_,h=>h
 | t :: ss,a,_=>by rw [epz]; exact ep_ltz hn (Nat.mod_lt _ hn)
theorem g11z {H : Nat} (hH : 1 ≤ H ∧ H ≤ 12) {R : List Int} (hb : BOkz H ⟨H, crdz R⟩) {a : Nat} (ha : a < R.length) {ss : List Nat} (hs : ∀ s ∈ ss, s ≤ 2) (hl : ss.length ≤ 60) :
  f49 ⟨H,crdz R⟩ (a:Int) (ss.map fun s:Nat=>(s:Int))=some (wkz R a ss,((epz R.length a ss:Nat):Int),0):=by
 have h2:=hb.2.1
 have hcl:=crd_lenz R
 have h2:1 ≤ (crdz R).length∧(crdz R).length ≤ 12:=h2
 refine Yes.eq ?_
 unfold f49
 refine qbindz _ (c111z hH hb) (Yes.jn (qskipz rfl (qbindz true (c112z _ _ _ (by simp) fun x hx=>?_) (qskipz rfl (qskipz (decide_eq_false (by rw [List.length_map]; omega)) (qbindz true (c112z _ _ _ (by rw [List.length_map]; omega) fun x hx=>?_) (qskipz rfl ?_)))))))
 ·rw [List.mem_singleton.1 hx]
  show 0 ≤ (a:Int)∧(a:Int) ≤ w64 (((crdz R).length:Int) - 1)
  rw [w64_id (by omega) (by omega)]; omega
 ·obtain ⟨s, h, rfl⟩ := List.mem_map.1 hx
  have:=hs s h
  omega
 refine Yes.bind (Yes.mono (Q':=fun r=>r=(wkz R a ss,((epz R.length a ss:Nat):Int))) ?_ fun r hr=>Yes.some (by rw [hr]))
 refine Yes.upto2 ss.length (by omega) (fun i rows b=>rows=wkz R a (ss.take i)∧b=((epz R.length a (ss.take i):Nat):Int)) ⟨rfl,rfl⟩ (fun i rows b k hi hI hkz=>?_) (fun rows b k hI=>?_)
 ·obtain ⟨i1, i2⟩ := hI
  have hil:i < (ss.map fun s:Nat=>(s:Int)).length:=by rw [List.length_map]; exact hi
  have hpos:=ep_ltz (n:=R.length) (by omega) (ss:=ss.take i) ha
  have hrl:rows.length=i:=by rw [i1,wk_lenz]; simp; omega
  have hs2:=hs _ (List.getElem_mem hi)
  subst i2
  refine qtakez (decide_eq_true (by rw [List.length_map]; omega)) (Yes.bind (qbindz ((ss[i]:Nat):Int) (by rw [qidxz hil]; simp) (qbindz _ (lift_zz hpos) (Yes.bind (Yes.apnd (by rw [hrl]; simp; omega) (by rw [hrl]; simp; omega) (qbindz _ (after_zz hpos (by omega) hs2) (Yes.some (hkz _ _ ⟨?_,?_⟩))))))))
  ·rw [i1,take_succz hi,wk_snocz,List.getD_eq_getElem?_getD,List.getElem?_eq_getElem hpos]; rfl
  ·rw [take_succz hi,ep_snocz]
 ·obtain ⟨i1, i2⟩ := hI
  rw [List.take_length] at i1 i2
  exact qskipz (decide_eq_false (by rw [List.length_map]; omega)) (Yes.some (by rw [i1,i2]))
end Go.Proofs.YtbelgnbjkciafaaGreatDoor
