/- Laws of plain functions, part 1. -/
import Derived.Test.YtjoniingnbmljaaYes
set_option maxRecDepth 8000
namespace Go.Proofs.Ytjoniingnbmljaa
open Go.RowKit
open Classical
theorem s105F (x a b:Int):f241 x a b=some (!decide (a ≤ x∧x ≤ b)):=by unfold f241; by_cases h1:x < a <;> by_cases h2:x > b <;> simp [h1,h2] <;> omega
theorem s87F (xs:List Int) (φ:Int→Option Bool) (p:Int→Bool) (hl:xs.length < 9223372036854775807) (h:∀ a ∈ xs,φ a=some (p a)):f165 xs φ=some (xs.any p):=
 Yes.eq (Yes.bind (Yes.mono (index_is xs φ p hl h) fun _ hr=>Yes.some (index_any hr)))
theorem s53F (xs:List Zv) (φ:Zv→Option Bool) (p:Zv→Bool) (hl:xs.length < 9223372036854775807) (h:∀ a ∈ xs,φ a=some (p a)):f222 xs φ=some (xs.any p):=
 Yes.eq (Yes.bind (Yes.mono (index_is xs φ p hl h) fun _ hr=>Yes.some (index_any hr)))
theorem any_notF (xs:List Int) (p:Int→Bool):(!(xs.any fun x=>!p x))=xs.all p:=by induction xs <;> simp_all
theorem s94F (a b:Int) (xs:List Int) (hl:xs.length < 9223372036854775807):f184 a b xs=some (xs.all fun x=>decide (a ≤ x∧x ≤ b)):=by
 unfold f184; rw [s87F xs _ (fun x=>!decide (a ≤ x∧x ≤ b)) hl (fun x _=>s105F x a b)]
 show some (!(xs.any fun x=>!decide (a ≤ x∧x ≤ b)))=_
 rw [any_notF]
theorem s95F (a b:Int) (xs:List Int) (hl:xs.length < 9223372036854775807):f103 a b xs=some (xs.all fun x=>decide (a ≤ x∧x ≤ b)):=s94F a b xs hl
theorem s62F (a b:Int) (xs:List Int) (hl:xs.length < 9223372036854775807):f94 a b xs=some (xs.all fun x=>decide (a ≤ x∧x ≤ b)):=s94F a b xs hl

def btwF (a b x:Int):Bool:=decide (a ≤ x∧x ≤ b)
def tieEF (h:TieHarness):Int:=if btwF 1 24 h.Hooks then if h.Warps.length > 96 then 5 else if h.Warps.length=0 then 7 else if h.Warps.all (btwF 0 (h.Hooks - 1)) then 0 else 2 else 2
def desEF (d:Design):Int:=if btwF 1 24 d.Hooks then if d.Rows.length > 60 then 5 else if d.Rows.length=0 then 7 else if d.Rows.all (btwF 0 (2 ^ d.Hooks.toNat - 1)) then 0 else 2 else 2
def loomEF (l:FaultLoom):Int:=if tieEF l.Harness ≠ 0 then tieEF l.Harness else if desEF l.Design ≠ 0 then desEF l.Design else if l.Harness.Hooks ≠ l.Design.Hooks then 4 else 0
theorem s73F (h:TieHarness):f105 h=some (tieEF h):=by
 refine Yes.eq ?_
 unfold f105
 refine Yes.jn (Yes.bind (Yes.of (s94F _ _ _ (by simp)) (Yes.cond (fun h1=>Yes.some ?_) (fun h1=>?_))))
 ·have : btwF 1 24 h.Hooks = false := by simp [btwF] at h1 ⊢; omega
  simp [tieEF,this]
 have hb:btwF 1 24 h.Hooks=true:=by simpa [btwF] using h1
 have hb':1 ≤ h.Hooks∧h.Hooks ≤ 24:=by simpa [btwF] using hb
 refine Yes.cond (fun h2=>Yes.some ?_) (fun h2=>?_)
 ·have : h.Warps.length > 96 := by simp at h2; omega
  simp [tieEF,hb,this]
 have h2':¬ h.Warps.length > 96:=by simp at h2; omega
 refine Yes.cond (fun h3=>Yes.some ?_) (fun h3=>?_)
 ·have : h.Warps.length = 0 := by simpa using h3
  simp [tieEF,hb,this]
 have h3':¬ h.Warps.length=0:=by simpa using h3
 rw [w64_id (n:=h.Hooks - 1) (by omega) (by omega)]
 refine Yes.bind (Yes.of (s94F _ _ _ (by omega)) (Yes.cond (fun h4=>Yes.some ?_) (fun h4=>Yes.some ?_)))
 ·have : h.Warps.all (btwF 0 (h.Hooks - 1)) = false := by simpa [btwF] using h4
  simp [tieEF,hb,h2',h3',this]
 ·have : h.Warps.all (btwF 0 (h.Hooks - 1)) = true := by simpa [btwF] using h4
  simp [tieEF,hb,h2',h3',this]
theorem pow_smallF {n:Int} (h1:1 ≤ n) (h2:n ≤ 24):(1:Int) ≤ 2 ^ n.toNat∧(2:Int) ^ n.toNat ≤ 16777216:=by
 have a:1 ≤ 2 ^ n.toNat:=Nat.one_le_two_pow
 have b:2 ^ n.toNat ≤ 2 ^ 24:=Nat.pow_le_pow_right (by omega) (by omega)
 have c:((2 ^ n.toNat:Nat):Int)=(2:Int) ^ n.toNat:=by simp
 rw [← c]; omega
theorem shl_oneF {n:Int} (h1:1 ≤ n) (h2:n ≤ 24):shl64 1 n=some (2 ^ n.toNat):=by
 unfold shl64
 have ⟨a,b⟩:=pow_smallF h1 h2
 rw [if_neg (by omega),show min n.toNat 64=n.toNat by omega,Int.one_mul,w64_id (by omega) (by omega)]
theorem s74F (d:Design):f102 d=some (desEF d):=by
 refine Yes.eq ?_
 unfold f102
 refine Yes.jn (Yes.bind (Yes.of (s95F _ _ _ (by simp)) (Yes.cond (fun h1=>Yes.some ?_) (fun h1=>?_))))
 ·have : btwF 1 24 d.Hooks = false := by simp [btwF] at h1 ⊢; omega
  simp [desEF,this]
 have hb:btwF 1 24 d.Hooks=true:=by simpa [btwF] using h1
 have hb':1 ≤ d.Hooks∧d.Hooks ≤ 24:=by simpa [btwF] using hb
 refine Yes.cond (fun h2=>Yes.some ?_) (fun h2=>?_)
 ·have : d.Rows.length > 60 := by simp at h2; omega
  simp [desEF,hb,this]
 have h2':¬ d.Rows.length > 60:=by simp at h2; omega
 refine Yes.cond (fun h3=>Yes.some ?_) (fun h3=>?_)
 ·have : d.Rows.length = 0 := by simpa using h3
  simp [desEF,hb,this]
 have h3':¬ d.Rows.length=0:=by simpa using h3
 have ⟨pa,pb⟩:=pow_smallF hb'.1 hb'.2
 refine Yes.bind (Yes.of (shl_oneF hb'.1 hb'.2) ?_)
 rw [w64_id (n:=2 ^ d.Hooks.toNat - 1) (by omega) (by omega)]
 refine Yes.bind (Yes.of (s95F _ _ _ (by omega)) (Yes.cond (fun h4=>Yes.some ?_) (fun h4=>Yes.some ?_)))
 ·have : d.Rows.all (btwF 0 (2 ^ d.Hooks.toNat - 1)) = false := by simpa [btwF] using h4
  simp [desEF,hb,h2',h3',this]
 ·have : d.Rows.all (btwF 0 (2 ^ d.Hooks.toNat - 1)) = true := by simpa [btwF] using h4
  simp [desEF,hb,h2',h3',this]
theorem loom_ofF (l : FaultLoom) (x : Option Int) (y : Option Int) (hx : x = some (tieEF l.Harness)) (hy : y = some (desEF l.Design)) :
  (jn (σ:=Unit) (fun _=>jn (σ:=Unit) (fun _=>jn (σ:=Unit) (fun _=>some ((0:Int))) fun k33=>bif ((l.Harness).Hooks != (l.Design).Hooks) then some ((4:Int)) else k33 ()) fun k19=>
   y.bind fun y23=>bif (y23 != (0:Int)) then some (y23) else k19 ()) fun k7=>x.bind fun y11=>bif (y11 != (0:Int)) then some (y11) else k7 ())=some (loomEF l):=by
 subst hx; subst hy
 unfold loomEF jn
 by_cases h1:tieEF l.Harness=0 <;> by_cases h2:desEF l.Design=0 <;> by_cases h3:l.Harness.Hooks=l.Design.Hooks <;> simp [h1,h2,h3,bne,BEq.beq]
theorem s50F (l:FaultLoom):f95 l=some (loomEF l):=loom_ofF l _ _ (s73F _) (s74F _)
structure GoodF (l : FaultLoom) : Prop where
 h1:1 ≤ l.Design.Hooks
 h24:l.Design.Hooks ≤ 24
 hh:l.Harness.Hooks=l.Design.Hooks
 w0:0 < l.Harness.Warps.length
 w1:l.Harness.Warps.length ≤ 96
 r0:0 < l.Design.Rows.length
 r1:l.Design.Rows.length ≤ 60
 warp:∀ x ∈ l.Harness.Warps,0 ≤ x∧x < l.Design.Hooks
 row:∀ x ∈ l.Design.Rows,0 ≤ x∧x < 2 ^ l.Design.Hooks.toNat
theorem good_ofF {l:FaultLoom} (h:loomEF l=0):GoodF l:=by
 unfold loomEF at h
 split at h
 ·rename_i h1; exact absurd h h1
 rename_i h1
 split at h
 ·rename_i h2; exact absurd h h2
 rename_i h2
 split at h
 ·cases h
 rename_i h3
 have h1:tieEF l.Harness=0:=Decidable.not_not.1 h1
 have h2:desEF l.Design=0:=Decidable.not_not.1 h2
 have h3:l.Harness.Hooks=l.Design.Hooks:=Decidable.not_not.1 h3
 unfold tieEF at h1
 unfold desEF at h2
 split at h1
 case isFalse=>cases h1
 split at h1
 ·cases h1
 split at h1
 ·cases h1
 split at h1
 case isFalse=>cases h1
 split at h2
 case isFalse=>cases h2
 split at h2
 ·cases h2
 split at h2
 ·cases h2
 split at h2
 case isFalse=>cases h2
 rename_i a1 a2 a3 a4 b1 b2 b3 b4
 simp only [btwF,decide_eq_true_eq,List.all_eq_true] at a1 a4 b1 b4
 exact ⟨b1.1,b1.2,h3,by omega,by omega,by omega,by omega,fun x hx=>by have:=a4 x hx; omega,fun x hx=>by have:=b4 x hx; omega⟩
def dmgF (l:FaultLoom) (d:Zv):Bool:=
 if d.Kind=1 then btwF 0 (l.Design.Rows.length - 1) d.Pick && btwF 0 (l.Design.Hooks - 1) d.Hook && decide (d.Warp=0) && !d.Up
 else if d.Kind=2 then btwF 0 (l.Design.Hooks - 1) d.Hook && decide (d.Pick=0) && decide (d.Warp=0)
 else if d.Kind=3 ∨ d.Kind=4 then btwF 0 (l.Design.Rows.length - 1) d.Pick && decide (d.Hook=0) && decide (d.Warp=0) && !d.Up
 else if d.Kind=5 then btwF 0 (l.Harness.Warps.length - 1) d.Warp && decide (d.Pick=0) && decide (d.Hook=0) && !d.Up
 else false
theorem s52F {l:FaultLoom} (g:GoodF l) (d:Zv):f221 ⟨l⟩ d=some (dmgF l d):=by
 unfold f221
 obtain ⟨g1,g2,_,g3,g4,g5,g6,_,_⟩:=g
 simp only
 rw [w64_id (n:=(l.Design.Rows.length:Int) - 1) (by omega) (by omega),w64_id (n:=l.Design.Hooks - 1) (by omega) (by omega),w64_id (n:=(l.Harness.Warps.length:Int) - 1) (by omega) (by omega)]
 simp only [s62F _ _ [d.Pick] (by simp),s62F _ _ [d.Hook] (by simp),s62F _ _ [d.Warp] (by simp),List.all_cons,List.all_nil,Bool.and_true,Option.bind_some,← btwF.eq_1]
 have b0:btwF 0 (l.Design.Hooks - 1) 0=true:=by simp [btwF]; omega
 have b1:btwF 0 ((l.Design.Rows.length:Int) - 1) 0=true:=by simp [btwF]; omega
 have b2:btwF 0 ((l.Harness.Warps.length:Int) - 1) 0=true:=by simp [btwF]; omega
 obtain ⟨k,p,h,w,u⟩:=d
 unfold dmgF
 simp only
 have e:∀ a b:Int,(a == b)=decide (a=b):=fun a b=>by rw [Bool.eq_iff_iff]; simp
 simp only [e]
 by_cases k1:k=1
 ·subst k1
  by_cases q:w=0 <;> cases u <;> simp [q,b2]
  cases btwF 0 ((l.Design.Rows.length:Int) - 1) p <;> cases btwF 0 (l.Design.Hooks - 1) h <;> simp
 by_cases k2:k=2
 ·subst k2
  by_cases q:p=0 <;> by_cases r:w=0 <;> simp [q,r,b1,b2]
  cases btwF 0 (l.Design.Hooks - 1) h <;> simp
 by_cases k3:k=3
 ·subst k3
  by_cases q:h=0 <;> by_cases r:w=0 <;> cases u <;> simp [q,r,b0,b2]
  cases btwF 0 ((l.Design.Rows.length:Int) - 1) p <;> simp
 by_cases k4:k=4
 ·subst k4
  by_cases q:h=0 <;> by_cases r:w=0 <;> cases u <;> simp [q,r,b0,b2]
  cases btwF 0 ((l.Design.Rows.length:Int) - 1) p <;> simp
 by_cases k5:k=5
 ·subst k5
  by_cases q:p=0 <;> by_cases r:h=0 <;> cases u <;> simp [q,r,b0,b1]
 simp [k1,k2,k3,k4,k5]
def chkEF (l:FaultLoom) (ds:List Zv):Int:=if loomEF l ≠ 0 then loomEF l else if ds.length > 100 then 5 else if ds.all (dmgF l) then 0 else 2
theorem s18F (l:FaultLoom) (ds:List Zv):f144 l ds=some (chkEF l ds):=by
 refine Yes.eq ?_
 unfold f144
 refine Yes.jn (Yes.bind (Yes.of (s50F l) (Yes.cond (fun h=>Yes.some ?_) (fun h=>Yes.jn (Yes.cond (fun h2=>Yes.some ?_) (fun h2=>?_))))))
 ·have : loomEF l ≠ 0 := by simpa using h
  simp [chkEF,this]
 all_goals have h0:loomEF l=0:=by simpa using h
 ·have : ds.length > 100 := by simp at h2; omega
  simp [chkEF,h0,this]
 have h2':¬ ds.length > 100:=by simp at h2; omega
 have hg:=good_ofF h0
 have h53:=s53F ds (fun a0=>f220 a0 l) (fun d=>!dmgF l d) (by omega) fun d _=>by unfold f220; rw [s52F hg d]; rfl
 refine Yes.bind (Yes.of h53 (Yes.cond (fun h3=>Yes.some ?_) (fun h3=>Yes.some ?_)))
 ·have:ds.all (dmgF l)=false:=by
   rw [List.any_eq_true] at h3
   obtain ⟨d,hd,hn⟩:=h3
   exact List.all_eq_false.2 ⟨d,hd,by simpa using hn⟩
  simp [chkEF,h0,h2',this]
 ·have:ds.all (dmgF l)=true:=by
   rw [List.any_eq_false] at h3
   exact List.all_eq_true.2 fun d hd=>by simpa using h3 d hd
  simp [chkEF,h0,h2',this]
theorem pow62F:(2:Nat) ^ 62=4611686018427387904:=by decide
theorem ofInt_smallF {a:Nat} (ha:a < 2 ^ 62):(BitVec.ofInt 64 (a:Int)).toNat=a:=by
 rw [BitVec.ofInt_natCast,BitVec.toNat_ofNat]
 exact Nat.mod_eq_of_lt (by rw [pow62F] at ha; omega)
theorem xor64F {a b:Nat} (ha:a < 2 ^ 62) (hb:b < 2 ^ 62):bit64 .xor a b=((a ^^^ b:Nat):Int):=by
 have hx:a ^^^ b < 2 ^ 62:=Nat.xor_lt_two_pow ha hb
 unfold bit64
 simp only [BitVec.toNat_xor,ofInt_smallF ha,ofInt_smallF hb]
 rw [pow62F] at hx
 exact w64_id (by omega) (by omega)
theorem or64F {a b:Nat} (ha:a < 2 ^ 62) (hb:b < 2 ^ 62):bit64 .or a b=((a ||| b:Nat):Int):=by
 have hx:a ||| b < 2 ^ 62:=Nat.or_lt_two_pow ha hb
 unfold bit64
 simp only [BitVec.toNat_or,ofInt_smallF ha,ofInt_smallF hb]
 rw [pow62F] at hx
 exact w64_id (by omega) (by omega)
theorem and64F {a b:Nat} (ha:a < 2 ^ 62) (hb:b < 2 ^ 62):bit64 .and a b=((a &&& b:Nat):Int):=by
 have hx:a &&& b < 2 ^ 62:=Nat.and_lt_two_pow a hb
 unfold bit64
 simp only [BitVec.toNat_and,ofInt_smallF ha,ofInt_smallF hb]
 rw [pow62F] at hx
 exact w64_id (by omega) (by omega)
theorem shl_bitF {h:Nat} (hh:h < 62):shl64 1 (h:Int)=some ((2 ^ h:Nat):Int):=by
 have hx:2 ^ h < 2 ^ 62:=Nat.pow_lt_pow_right (by decide) hh
 rw [pow62F] at hx
 unfold shl64
 rw [if_neg (by omega),show min (h:Int).toNat 64=h by simp; omega,Int.one_mul]
 rw [show ((2:Int) ^ h)=((2 ^ h:Nat):Int) by simp]
 generalize 2 ^ h=q at hx ⊢
 rw [w64_id (by omega) (by omega)]
theorem shl_twoF {a:Nat} (ha:a < 2 ^ 60):shl64 (a:Int) 1=some ((2 * a:Nat):Int):=by
 have:(2:Nat) ^ 60=1152921504606846976:=by decide
 rw [this] at ha
 unfold shl64
 rw [if_neg (by omega),show min (1:Int).toNat 64=1 by rfl]
 rw [w64_id (by omega) (by omega)]
 simp; omega
theorem shr_bitF {a h:Nat} (hh:h < 62):shr64 (a:Int) (h:Int)=some ((a >>> h:Nat):Int):=by
 unfold shr64
 rw [if_neg (by omega),show min (h:Int).toNat 64=h by simp; omega]
 congr 1
 rw [show ((2:Int) ^ h)=((2 ^ h:Nat):Int) by simp,Nat.shiftRight_eq_div_pow]
 generalize 2 ^ h=q
 rw [Int.fdiv_eq_ediv_of_nonneg _ (by omega)]
 exact (Int.natCast_ediv a q).symm

def TbF (H n:Nat) (rows:List Int) (t:Nat→Nat→Bool):Prop:=
 rows.length=n∧∀ p (hp:p < rows.length),∃ a:Nat,rows[p]=(a:Int)∧a < 2 ^ H∧∀ h,h < H→a.testBit h=t p h
theorem two_ltF {H:Nat} (hH:H ≤ 24) {a:Nat} (ha:a < 2 ^ H):a < 2 ^ 24:=Nat.lt_of_lt_of_le ha (Nat.pow_le_pow_right (by decide) hH)
theorem two24F:(2:Nat) ^ 24 < 2 ^ 62:=by decide
theorem lt62F {H:Nat} (hH:H ≤ 24) {a:Nat} (ha:a < 2 ^ H):a < 2 ^ 62:=Nat.lt_trans (two_ltF hH ha) two24F
theorem TbF.set {H n:Nat} {rows:List Int} {t t':Nat→Nat→Bool} (ht:TbF H n rows t) {p:Nat} {a:Nat} (ha:a < 2 ^ H) (h1:∀ h,h < H→a.testBit h=t' p h) (h2:∀ q h,q ≠ p→h < H→t' q h=t q h):TbF H n (rows.set p (a:Int)) t':=by
 refine ⟨by rw [List.length_set]; exact ht.1,fun q hq=>?_⟩
 rw [List.length_set] at hq
 by_cases hqp:q=p
 ·subst hqp
  exact ⟨a,by simp,ha,h1⟩
 ·obtain ⟨b, hb, hb2, hb3⟩ := ht.2 q hq
  refine ⟨b,?_,hb2,fun h hh=>by rw [hb3 h hh,h2 q h hqp hh]⟩
  rw [List.getElem_set_ne (fun e=>hqp e.symm)]; exact hb
def act1F (p h:Nat) (t:Nat→Nat→Bool):Nat→Nat→Bool:=fun q k=>if q=p∧k=h then !t q k else t q k
theorem s97F {H n : Nat} (hH : H ≤ 24) {rows : List Int} {t : Nat → Nat → Bool} (ht : TbF H n rows t) (l : FaultFaultLoom) {d : Zv} {p h : Nat} (hp : d.Pick = p) (hpn : p < n) (hh : d.Hook = h) (hhH : h < H) :
  Yes (f224 l d rows) fun r=>TbF H n r (act1F p h t):=by
 obtain ⟨a,ha,ha2,ha3⟩:=ht.2 p (by rw [ht.1]; exact hpn)
 have hpl:p < rows.length:=by rw [ht.1]; exact hpn
 unfold f224
 refine Yes.bind (Yes.idx hp hpl (Yes.bind (Yes.of (by rw [hh]; exact shl_bitF (by omega)) (Yes.bind (Yes.idx hp hpl (Yes.some ?_))))))
 have h2:2 ^ h < 2 ^ H:=Nat.pow_lt_pow_right (by decide) hhH
 rw [ha,xor64F (lt62F hH ha2) (lt62F hH h2),hp,Int.toNat_natCast]
 refine ht.set (Nat.xor_lt_two_pow ha2 h2) (fun k hkF=>?_) (fun q k hq _=>by simp [act1F,hq])
 rw [Nat.testBit_xor,ha3 k hkF,Nat.testBit_two_pow]
 by_cases e:k=h
 ·subst e; simp [act1F]
 ·simp [act1F,e,Ne.symm e]
def act4F (p q:Nat) (t:Nat→Nat→Bool):Nat→Nat→Bool:=fun r k=>if r=q then t p k else if r=p then t q k else t r k
theorem s100F {H n : Nat} {rows : List Int} {t : Nat → Nat → Bool} (ht : TbF H n rows t) (hn : n ≤ 1000) (l : FaultFaultLoom) {d : Zv} {p : Nat} (hp : d.Pick = p) (hpn : p < n) :
  Yes (f227 l d rows) fun r=>TbF H n r (act4F p ((p + 1) % n) t):=by
 have hpl:p < rows.length:=by rw [ht.1]; exact hpn
 have hql:(p + 1) % n < rows.length:=by rw [ht.1]; exact Nat.mod_lt _ (by omega)
 obtain ⟨a,ha,ha2,ha3⟩:=ht.2 p hpl
 obtain ⟨b,hb,hb2,hb3⟩:=ht.2 _ hql
 unfold f227
 have hrem:rem64 (w64 (d.Pick + 1)) (rows.length:Int)=some (((p + 1) % n:Nat):Int):=by
  rw [hp,w64_id (by omega) (by omega),ht.1]
  unfold rem64
  rw [if_neg (by omega)]
  rw [Int.tmod_eq_emod_of_nonneg (by omega)]
  rfl
 refine Yes.bind (Yes.of hrem (Yes.bind (Yes.idx hp hpl (Yes.bind (Yes.idx rfl hql (Yes.bind (Yes.idx hp hpl (Yes.bind (Yes.idx rfl (by rw [List.length_set]; exact hql) (Yes.some ?_))))))))))
 rw [ha,hb,hp,Int.toNat_natCast,Int.toNat_natCast]
 have s1:TbF H n (rows.set p (b:Int)) (fun r k=>if r=p then t ((p + 1) % n) k else t r k):=ht.set hb2 (fun k hkF=>by rw [hb3 k hkF]; simp) (fun q k hq _=>by simp [hq])
 exact s1.set ha2 (fun k hkF=>by rw [ha3 k hkF]; simp [act4F]) (fun q k hq _=>by simp [act4F,hq])
def act2F (h:Nat) (u:Bool) (t:Nat→Nat→Bool):Nat→Nat→Bool:=fun q k=>if k=h then u else t q k
theorem s98F {H n : Nat} (hH : H ≤ 24) {rows : List Int} {t : Nat → Nat → Bool} (ht : TbF H n rows t) (hn : n ≤ 1000) (l : FaultFaultLoom) {d : Zv} {h : Nat} (hh : d.Hook = h) (hhH : h < H) :
  Yes (f225 l d rows) fun r=>TbF H n r (act2F h d.Up t):=by
 unfold f225
 have h2:2 ^ h < 2 ^ H:=Nat.pow_lt_pow_right (by decide) hhH
 have hsh:shl64 1 d.Hook=some ((2 ^ h:Nat):Int):=by rw [hh]; exact shl_bitF (by omega)
 rw [show rows.length=n from ht.1]
 refine Yes.upto n (by omega) (fun i r=>TbF H n r (fun q k=>if q < i then act2F h d.Up t q k else t q k)) (by simpa using ht) (fun i r k hi hI hkF=>?_) (fun r k hI=>?_)
 ·obtain ⟨a, ha, ha2, ha3⟩ := hI.2 i (by rw [hI.1]; exact hi)
  have hil:i < r.length:=by rw [hI.1]; exact hi
  have hor:a ||| 2 ^ h < 2 ^ H:=Nat.or_lt_two_pow ha2 h2
  refine Yes.cond (fun _=>Yes.bind ?_) (fun h=>absurd h (by simp; omega))
  refine Yes.bind (Yes.idx rfl hil (Yes.bind (Yes.of hsh (Yes.bind (Yes.idx rfl hil ?_)))))
  rw [ha,or64F (lt62F hH ha2) (lt62F hH h2),Int.toNat_natCast]
  refine Yes.cond (fun hu=>?_) (fun hu=>Yes.some (hkF _ ?_))
  ·refine Yes.bind (Yes.idx rfl (by rw [List.length_set]; exact hil) (Yes.bind (Yes.of hsh (Yes.bind (Yes.idx rfl (by rw [List.length_set]; exact hil) (Yes.some (hkF _ ?_)))))))
   simp only [List.getElem_set_self,List.set_set]
   rw [xor64F (lt62F hH hor) (lt62F hH h2)]
   have hu:d.Up=false:=by simpa using hu
   refine hI.set (Nat.xor_lt_two_pow hor h2) (fun k hkF=>?_) (fun q k hq _=>?_)
   ·rw [Nat.testBit_xor, Nat.testBit_or, ha3 k hkF, Nat.testBit_two_pow]
    by_cases e:k=h
    ·subst e; simp [act2F,hu]
    ·simp [act2F,e,Ne.symm e]
   ·have : (q < i + 1) = (q < i) := by simp; omega
    simp only [this]
  ·have hu : d.Up = true := by simpa using hu
   refine hI.set hor (fun k hkF=>?_) (fun q k hq _=>?_)
   ·rw [Nat.testBit_or, ha3 k hkF, Nat.testBit_two_pow]
    by_cases e:k=h
    ·subst e; simp [act2F,hu]
    ·simp [act2F,e,Ne.symm e]
   ·have : (q < i + 1) = (q < i) := by simp; omega
    simp only [this]
 ·refine Yes.cond (fun h => absurd h (by simp)) (fun _ => Yes.some ?_)
  refine ⟨hI.1,fun q hq=>?_⟩
  obtain ⟨b,hb,hb2,hb3⟩:=hI.2 q hq
  refine ⟨b,hb,hb2,fun k hkF=>?_⟩
  rw [hb3 k hkF]
  exact if_pos (by rw [← hI.1]; exact hq)
def act3F (H p:Nat) (t:Nat→Nat→Bool):Nat→Nat→Bool:=fun q k=>if q=p then t p (H - 1 - k) else t q k
theorem s99F {H n : Nat} (hH : H ≤ 24) {rows : List Int} {t : Nat → Nat → Bool} (ht : TbF H n rows t) (l : FaultLoom) (hl : l.Design.Hooks = H) {d : Zv} {p : Nat} (hp : d.Pick = p) (hpn : p < n) :
  Yes (f226 ⟨l⟩ d rows) fun r=>TbF H n r (act3F H p t):=by
 have hpl:p < rows.length:=by rw [ht.1]; exact hpn
 obtain ⟨b,hb,hb2,hb3⟩:=ht.2 p hpl
 unfold f226
 simp only
 rw [hl]
 refine Yes.bind (Yes.upto H (by omega) (fun i r=>∃ a:Nat,r=(a:Int)∧a < 2 ^ i∧∀ j,j < i→a.testBit j=t p (i - 1 - j)) ⟨0,rfl,by simp,fun _ h=>absurd h (Nat.not_lt_zero _)⟩ (fun i r k hi hI hkF=>?_) (fun r k hI=>?_))
 ·obtain ⟨a, rfl, ha, ha2⟩ := hI
  have ha24:a < 2 ^ 24:=two_ltF (by omega) ha
  have ha60:a < 2 ^ 60:=Nat.lt_trans ha24 (by decide)
  refine Yes.cond (fun _=>Yes.bind (Yes.bind (Yes.of (shl_twoF ha60) (Yes.bind (Yes.idx hp hpl (Yes.bind (Yes.of (by rw [hb]; exact shr_bitF (by omega)) (Yes.some (hkF _ ?_))))))))) (fun h=>absurd h (by simp; omega))
  have hs:b >>> i < 2 ^ 62:=Nat.lt_of_le_of_lt (Nat.shiftRight_le b i) (lt62F hH hb2)
  rw [show (1:Int)=((1:Nat):Int) from rfl,and64F hs (by decide)]
  have h1:(b >>> i) &&& 1 < 2 ^ 1:=Nat.and_lt_two_pow _ (by decide)
  have h2a:2 * a < 2 ^ (i + 1):=by rw [Nat.pow_succ]; omega
  have hb1:(b >>> i) &&& 1 < 2 ^ (i + 1):=Nat.lt_of_lt_of_le h1 (Nat.pow_le_pow_right (by decide) (by omega))
  rw [or64F (lt62F (H:=i + 1) (by omega) h2a) (lt62F (H:=i + 1) (by omega) hb1)]
  refine ⟨_,rfl,Nat.or_lt_two_pow h2a hb1,fun j hj=>?_⟩
  have e2:2 * a=a <<< 1:=by rw [Nat.shiftLeft_eq]; omega
  rw [Nat.testBit_or,e2,Nat.testBit_shiftLeft,Nat.testBit_and,Nat.testBit_shiftRight]
  cases j with
  | zero=>simp [hb3 i hi]
  | succ j=>
   have:(1:Nat).testBit (j + 1)=false:=by
    rw [show (1:Nat)=2 ^ 0 from rfl,Nat.testBit_two_pow]; simp
   rw [this]
   simp only [Nat.add_sub_cancel,Bool.and_false,Bool.or_false]
   rw [ha2 j (by omega)]
   simp
   congr 1; omega
 ·obtain ⟨a, rfl, ha, ha2⟩ := hI
  refine Yes.cond (fun h=>absurd h (by simp)) (fun _=>Yes.some (Yes.bind (Yes.idx hp hpl (Yes.some ?_))))
  rw [hp,Int.toNat_natCast]
  exact ht.set ha (fun k hkF=>by rw [ha2 k hkF]; simp [act3F]) (fun q k hq _=>by simp [act3F,hq])
def markF (b:Bool):UInt8:=if b then 120 else 46
def lineF (m:Nat) (c:Nat→Bool):Str:=⟨(List.range m).map fun w=>markF (c w)⟩
def clothOfF (n m:Nat) (c:Nat→Nat→Bool):List Str:=(List.range n).map fun p=>lineF m (c p)
def hkF (l:FaultLoom) (w:Nat):Nat:=((l.Harness.Warps[w]?).getD 0).toNat
theorem hk_atF {l:FaultLoom} (g:GoodF l) {w:Nat} (hw:w < l.Harness.Warps.length):l.Harness.Warps[w]=(hkF l w:Int)∧hkF l w < l.Design.Hooks.toNat:=by
 have:=g.warp _ (List.getElem_mem hw)
 unfold hkF
 rw [List.getElem?_eq_getElem hw]
 simp only [Option.getD_some]
 omega
theorem and_oneF (a:Nat):(((a &&& 1:Nat):Int) == (1:Int))=a.testBit 0:=by
 rw [Bool.eq_iff_iff,Nat.and_one_is_mod]
 simp [Nat.testBit_zero]
 omega
theorem s111F {l:FaultLoom} (g:GoodF l) {a w:Nat} (ha:a < 2 ^ 24) (hw:w < l.Harness.Warps.length):f187 ⟨l.Harness⟩ (a:Int) (w:Int)=some (a.testBit (hkF l w)):=by
 obtain ⟨e,hlt⟩:=hk_atF g hw
 have h24:=g.h24
 refine Yes.eq ?_
 unfold f187
 refine Yes.bind (Yes.idx rfl hw (Yes.bind (Yes.of (by rw [e]; exact shr_bitF (by omega)) (Yes.some ?_))))
 have hs:a >>> hkF l w < 2 ^ 62:=Nat.lt_of_le_of_lt (Nat.shiftRight_le a _) (Nat.lt_trans ha two24F)
 rw [show (1:Int)=((1:Nat):Int) from rfl,and64F hs (by decide)]
 show (((a >>> hkF l w &&& 1:Nat):Int) == (1:Int))=_
 rw [and_oneF,Nat.testBit_shiftRight,Nat.add_zero]
theorem s110F (b:Bool):f186 b=some (markF b):=by cases b <;> rfl
theorem s102F {l:FaultLoom} (g:GoodF l) {a:Nat} (ha:a < 2 ^ 24):f106 ⟨l.Harness⟩ (a:Int)=some (lineF l.Harness.Warps.length fun w=>a.testBit (hkF l w)):=by
 have hw1:=g.w1
 have hw0:=g.w0
 refine Yes.eq ?_
 unfold f106
 simp only
 refine Yes.bind (Yes.upto l.Harness.Warps.length (by omega) (fun i r=>r=(List.range i).map fun w=>markF (a.testBit (hkF l w))) rfl (fun i r k hi hI hk'=>?_) (fun r k hI=>?_))
 ·subst hI
  refine Yes.cond (fun _=>Yes.bind (Yes.bind (Yes.of (s111F g ha hi) (Yes.bind (Yes.of (s110F _) (Yes.bind (Yes.apnd (by simp; omega) (by simp; omega) (Yes.some (hk' _ ?_))))))))) (fun h=>absurd h (by simp; omega))
  rw [List.range_succ,List.map_append]; rfl
 ·subst hI
  refine Yes.cond (fun h=>absurd h (by simp)) (fun _=>Yes.some (Yes.bind (Yes.of (a:=lineF l.Harness.Warps.length fun w=>a.testBit (hkF l w)) ?_ (Yes.some rfl))))
  unfold sbstr
  rw [if_neg (by intro h; have:=congrArg List.length h; rw [List.length_map,List.length_range,List.length_nil] at this; omega)]
  rfl
def tabF (l:FaultLoom):Nat→Nat→Bool:=fun p h=>(((l.Design.Rows[p]?).getD 0).toNat).testBit h
theorem tab_goodF {l:FaultLoom} (g:GoodF l):TbF l.Design.Hooks.toNat l.Design.Rows.length l.Design.Rows (tabF l):=by
 refine ⟨rfl,fun p hp=>?_⟩
 have h1:=g.row _ (List.getElem_mem hp)
 refine ⟨(l.Design.Rows[p]).toNat,by omega,?_,fun h hh=>?_⟩
 ·have : ((2 ^ l.Design.Hooks.toNat : Nat) : Int) = (2 : Int) ^ l.Design.Hooks.toNat := by simp
  rw [← this] at h1
  omega
 ·unfold tabF; rw [List.getElem?_eq_getElem hp]; rfl
theorem tieE_goodF {l:FaultLoom} (g:GoodF l):tieEF l.Harness=0:=by
 have h1:btwF 1 24 l.Harness.Hooks=true:=by rw [g.hh]; have:=g.h1; have:=g.h24; simp [btwF]; omega
 have h2:l.Harness.Warps.all (btwF 0 (l.Harness.Hooks - 1))=true:=List.all_eq_true.2 fun x hx=>by have:=g.warp x hx; rw [g.hh]; simp [btwF]; omega
 have:=g.w0; have:=g.w1
 unfold tieEF
 rw [if_pos h1,if_neg (by omega),if_neg (by omega),if_pos h2]
theorem desE_tbF {l:FaultLoom} (g:GoodF l) {rows:List Int} {t:Nat→Nat→Bool} (ht:TbF l.Design.Hooks.toNat l.Design.Rows.length rows t):desEF ⟨l.Design.Hooks,rows⟩=0:=by
 have h1:btwF 1 24 l.Design.Hooks=true:=by have:=g.h1; have:=g.h24; simp [btwF]; omega
 have h2:rows.all (btwF 0 (2 ^ l.Design.Hooks.toNat - 1))=true:=List.all_eq_true.2 fun x hx=>by
  obtain ⟨p,hp,rfl⟩:=List.getElem_of_mem hx
  obtain ⟨a,ha,ha2,_⟩:=ht.2 p hp
  have:((2 ^ l.Design.Hooks.toNat:Nat):Int)=(2:Int) ^ l.Design.Hooks.toNat:=by simp
  rw [ha,← this]
  simp only [btwF,decide_eq_true_eq]
  omega
 have:=g.r0; have:=g.r1; have:=ht.1
 unfold desEF
 simp only
 rw [if_pos h1,if_neg (by omega),if_neg (by omega),if_pos h2]
theorem s82F {l : FaultLoom} (g : GoodF l) {rows : List Int} {t : Nat → Nat → Bool} (ht : TbF l.Design.Hooks.toNat l.Design.Rows.length rows t) :
  f39 l.Harness ⟨l.Design.Hooks,rows⟩=some (clothOfF l.Design.Rows.length l.Harness.Warps.length (fun p w=>t p (hkF l w)),0):=by
 have hr1:=g.r1
 have hw1:=g.w1
 have h24:=g.h24
 refine Yes.eq ?_
 unfold f39
 refine Yes.jn (Yes.bind (Yes.of (s73F _) ?_))
 rw [tieE_goodF g]
 refine Yes.cond (fun h=>nomatch h) (fun _=>Yes.jn (Yes.bind (Yes.of (s74F _) ?_)))
 rw [desE_tbF g ht]
 refine Yes.cond (fun h=>nomatch h) (fun _=>Yes.cond (fun h=>absurd h (by simp [g.hh])) (fun _=>Yes.bind ?_))
 simp only
 rw [ht.1]
 refine Yes.upto l.Design.Rows.length (by omega) (fun i r=>r=clothOfF i l.Harness.Warps.length fun p w=>t p (hkF l w)) rfl (fun i r k hi hI hk'=>?_) (fun r k hI=>?_)
 ·subst hI
  obtain ⟨a,ha,ha2,ha3⟩:=ht.2 i (by rw [ht.1]; exact hi)
  have h102:=s102F g (two_ltF (by omega) ha2)
  rw [← ha] at h102
  refine Yes.cond (fun _=>Yes.bind (Yes.bind (Yes.idx rfl (by rw [ht.1]; exact hi) (Yes.bind (Yes.of h102 (Yes.bind (Yes.apnd (by simp [clothOfF]; omega) (by simp [clothOfF]; omega) (Yes.some (hk' _ ?_))))))))) (fun h=>absurd h (by simp; omega))
  unfold clothOfF
  rw [List.range_succ,List.map_append]
  congr 1
  simp only [List.map_cons,List.map_nil,lineF]
  congr 2
  refine List.map_congr_left fun w hw=>?_
  rw [ha3 _ (hk_atF g (List.mem_range.1 hw)).2]
 ·subst hI
  exact Yes.cond (fun h=>absurd h (by simp)) (fun _=>Yes.some (Yes.some rfl))
def BrF (m:Nat) (br:List (Int × Bool)) (B:Nat→Bool):Prop:=(∀ q ∈ br,∃ w:Nat,q.1=(w:Int)∧w < m∧B w=true)∧∀ w,B w=true→∃ q ∈ br,q.1=(w:Int)
theorem mset_memF {br:List (Int × Bool)} {k:Int} {v:Bool} {q:Int × Bool} (h:q ∈ mset br k v):q=(k,v) ∨ q ∈ br:=by
 induction br with
 | nil=>simp [mset] at h; exact .inl h
 | cons p m ih=>
  unfold mset at h
  split at h
  ·rcases List.mem_cons.1 h with rfl | h
   ·exact .inl rfl
   ·exact .inr (List.mem_cons_of_mem _ h)
  ·rcases List.mem_cons.1 h with rfl | h
   ·exact .inr List.mem_cons_self
   ·rcases ih h with h | h
    ·exact .inl h
    ·exact .inr (List.mem_cons_of_mem _ h)
theorem mset_keyF {br:List (Int × Bool)} {k:Int} {v:Bool}:∃ q ∈ mset br k v,q.1=k:=by
 induction br with
 | nil=>exact ⟨(k,v),by simp [mset],rfl⟩
 | cons p m ih=>
  unfold mset
  split
  ·exact ⟨(k,v),List.mem_cons_self,rfl⟩
  ·obtain ⟨q,hq,e⟩:=ih; exact ⟨q,List.mem_cons_of_mem _ hq,e⟩
theorem mset_oldF {br:List (Int × Bool)} {k:Int} {v:Bool} {q:Int × Bool} (h:q ∈ br):∃ q' ∈ mset br k v,q'.1=q.1:=by
 induction br with
 | nil=>cases h
 | cons p m ih=>
  unfold mset
  split
  ·rename_i hp
   rcases List.mem_cons.1 h with rfl | h
   ·exact ⟨_,List.mem_cons_self,hp.symm⟩
   ·exact ⟨q,List.mem_cons_of_mem _ h,rfl⟩
  ·rcases List.mem_cons.1 h with rfl | h
   ·exact ⟨_,List.mem_cons_self,rfl⟩
   ·obtain ⟨q',hq',e⟩:=ih h; exact ⟨q',List.mem_cons_of_mem _ hq',e⟩
theorem mset_lenF (br:List (Int × Bool)) (k:Int) (v:Bool):(mset br k v).length ≤ br.length + 1:=by
 induction br with
 | nil=>simp [mset]
 | cons p m ih=>unfold mset; split <;> simp <;> omega
def actTF (l:FaultLoom) (d:Zv) (t:Nat→Nat→Bool):Nat→Nat→Bool:=
 if d.Kind=1 then act1F d.Pick.toNat d.Hook.toNat t else if d.Kind=2 then act2F d.Hook.toNat d.Up t else if d.Kind=3 then act3F l.Design.Hooks.toNat d.Pick.toNat t
 else if d.Kind=4 then act4F d.Pick.toNat ((d.Pick.toNat + 1) % l.Design.Rows.length) t else t
def actBF (d:Zv) (B:Nat→Bool):Nat→Bool:=if d.Kind=5 then fun w=>decide (w=d.Warp.toNat) || B w else B
theorem dmg_isF {l : FaultLoom} {d : Zv} (h : dmgF l d = true) :
  (d.Kind=1∧(0 ≤ d.Pick∧d.Pick < l.Design.Rows.length)∧0 ≤ d.Hook∧d.Hook < l.Design.Hooks) ∨ (d.Kind=2∧0 ≤ d.Hook∧d.Hook < l.Design.Hooks) ∨
  ((d.Kind=3 ∨ d.Kind=4)∧0 ≤ d.Pick∧d.Pick < l.Design.Rows.length) ∨ (d.Kind=5∧0 ≤ d.Warp∧d.Warp < l.Harness.Warps.length):=by
 unfold dmgF btwF at h
 split at h
 ·rename_i k; simp at h; exact .inl ⟨k,by omega,by omega⟩
 split at h
 ·rename_i k; simp at h; exact .inr (.inl ⟨k,by omega⟩)
 split at h
 ·rename_i k; simp at h; exact .inr (.inr (.inl ⟨k,by omega⟩))
 split at h
 ·rename_i k; simp at h; exact .inr (.inr (.inr ⟨k,by omega⟩))
 ·cases h
theorem sfchgF {l : FaultLoom} (g : GoodF l) {d : Zv} (hd : dmgF l d = true) {rows : List Int} {br : List (Int × Bool)} {t : Nat → Nat → Bool} {B : Nat → Bool}
  (ht:TbF l.Design.Hooks.toNat l.Design.Rows.length rows t) (hb:BrF l.Harness.Warps.length br B) :
  Yes (fchg d.Kind ⟨l⟩ d rows br) fun r=>TbF l.Design.Hooks.toNat l.Design.Rows.length r.1 (actTF l d t)∧BrF l.Harness.Warps.length r.2 (actBF d B)∧r.2.length ≤ br.length + 1:=by
 have h1:=g.h1
 have h24:=g.h24
 have r1:=g.r1
 have mp:∀ {x:Option (List Int)} {Q:List Int→Prop},Yes x Q→Yes (x.map fun r=>(r,br)) fun r=>Q r.1∧r.2=br:=fun ⟨a,ha,hq⟩=>⟨(a,br),by rw [ha]; rfl,hq,rfl⟩
 unfold fchg actTF actBF
 rcases dmg_isF hd with ⟨k,hp,hh⟩ | ⟨k,hh⟩ | ⟨k | k,hp⟩ | ⟨k,hw⟩
 ·simp only [k]
  exact (mp (s97F (by omega) ht ⟨l⟩ (p:=d.Pick.toNat) (h:=d.Hook.toNat) (by omega) (by omega) (by omega) (by omega))).mono fun r hr=>⟨hr.1,by rw [hr.2]; exact hb,by rw [hr.2]; omega⟩
 ·simp only [k]
  exact (mp (s98F (by omega) ht (by omega) ⟨l⟩ (h:=d.Hook.toNat) (by omega) (by omega))).mono fun r hr=>⟨hr.1,by rw [hr.2]; exact hb,by rw [hr.2]; omega⟩
 ·simp only [k]
  exact (mp (s99F (by omega) ht l (by omega) (p:=d.Pick.toNat) (by omega) (by omega))).mono fun r hr=>⟨hr.1,by rw [hr.2]; exact hb,by rw [hr.2]; omega⟩
 ·simp only [k]
  exact (mp (s100F ht (by omega) ⟨l⟩ (p:=d.Pick.toNat) (by omega) (by omega))).mono fun r hr=>⟨hr.1,by rw [hr.2]; exact hb,by rw [hr.2]; omega⟩
 ·simp only [k]
  refine ⟨(rows,mset br d.Warp true),rfl,ht,⟨fun q hq=>?_,fun w hw'=>?_⟩,mset_lenF _ _ _⟩
  ·rcases mset_memF hq with rfl | hq
   ·exact ⟨d.Warp.toNat,by simp only; omega,by omega,by simp⟩
   ·obtain ⟨w, e, hlt, hB⟩ := hb.1 q hq
    exact ⟨w,e,hlt,by simp [hB]⟩
  ·simp only [if_true, Bool.or_eq_true, decide_eq_true_eq] at hw'
   rcases hw' with rfl | hw'
   ·obtain ⟨q, hq, e⟩ := mset_keyF (br := br) (k := d.Warp) (v := true)
    exact ⟨q,hq,by rw [e]; omega⟩
   ·obtain ⟨q, hq, e⟩ := hb.2 w hw'
    obtain ⟨q',hq',e'⟩:=mset_oldF (k:=d.Warp) (v:=true) hq
    exact ⟨q',hq',e'.trans e⟩
theorem splits_memF {α : Type} : ∀ {xs : List α} {p : α × List α}, p ∈ splits xs → p.2.length < xs.length ∧ p.1 ∈ xs ∧ (∀ q ∈ p.2, q ∈ xs) ∧ ∀ q ∈ xs, q = p.1 ∨ q ∈ p.2
 | [],p,h=>by simp [splits] at h
 | x :: xs,p,h=>by
  rcases List.mem_cons.1 h with rfl | h
  ·exact ⟨by simp,List.mem_cons_self,fun q hq=>List.mem_cons_of_mem _ hq,fun q hq=>List.mem_cons.1 hq⟩
  ·obtain ⟨p', hp', rfl⟩ := List.mem_map.1 h
   obtain ⟨h1,h2,h3,h4⟩:=splits_memF hp'
   refine ⟨by simpa using h1,List.mem_cons_of_mem _ h2,fun q hq=>?_,fun q hq=>?_⟩
   ·rcases List.mem_cons.1 hq with rfl | hq
    ·exact List.mem_cons_self
    ·exact List.mem_cons_of_mem _ (h3 q hq)
   ·rcases List.mem_cons.1 hq with rfl | hq
    ·exact .inr List.mem_cons_self
    ·rcases h4 q hq with h | h
     ·exact .inl h
     ·exact .inr (List.mem_cons_of_mem _ h)
theorem yes_pickAllF {α ρ:Type} [DecidableEq ρ] {rem:List α} {k:α→List α→Option ρ} {R:ρ} (hne:rem ≠ []) (h:∀ p ∈ splits rem,Yes (k p.1 p.2) (fun r=>r=R)):Yes (Go.Proofs.Ytjoniingnbmljaa.pickAll rem k) (fun r=>r=R):=by
 cases rem with
 | nil=>exact absurd rfl hne
 | cons x xs=>
  unfold Go.Proofs.Ytjoniingnbmljaa.pickAll
  have hx:=(h (x,xs) (by simp [splits])).eq
  have hall:∀ y ∈ ((splits xs).map fun p=>(p.1,x :: p.2)).map (fun p=>k p.1 p.2),y=some R:=fun y hy=>by
   obtain ⟨p,hp,rfl⟩:=List.mem_map.1 hy
   exact (h p (by unfold splits; exact List.mem_cons_of_mem _ hp)).eq
  simp only [splits,List.map_cons]
  simp only at hx
  rw [hx,if_pos (List.all_eq_true.2 fun y hy=>by simpa using hall y hy)]
  exact ⟨R,rfl,rfl⟩
theorem dotsF {m : Nat} {br : List (Int × Bool)} {B : Nat → Bool} (hb : BrF m br B) (c : Nat → Bool) (hlen : br.length < 1000000) :
  lp (σ := (List UInt8) × (List (Int × Bool))) (fun k156 (m12, m64) => bif m64.isEmpty then some m12 else Go.Proofs.Ytjoniingnbmljaa.pickAll m64 fun q rm => (idx m12 q.1).bind fun _ => k156 ((List.set m12 (Int.toNat q.1) ((46 : UInt8))), rm))
   big ((lineF m c).b,br)=some (lineF m fun w=>c w && !B w).b:=by
 refine Yes.eq ?_
 refine Yes.lp (fun s => s.1.length = m ∧ (∀ q ∈ s.2, ∃ w : Nat, q.1 = (w : Int) ∧ w < m ∧ B w = true) ∧ ∀ w (hw : w < s.1.length), (B w = false → s.1[w] = markF (c w)) ∧ (B w = true → s.1[w] = 46 ∨ ∃ q ∈ s.2, q.1 = (w : Int)))
  (fun s=>s.2.length) ⟨by simp [lineF],hb.1,fun w hw=>⟨fun _=>by simp [lineF],fun h=>.inr (hb.2 w h)⟩⟩ (by simp only; omega) ?_
 rintro ⟨bs,rem⟩ k ⟨hl,hr,hw⟩ hkF
 simp only at hl hr hw hkF ⊢
 refine Yes.cond (fun he=>Yes.some ?_) (fun he=>yes_pickAllF (by intro h; subst h; simp at he) fun p hp=>?_)
 ·have : rem = [] := by simpa using he
  subst this
  refine List.ext_getElem (by simp [lineF,hl]) fun w h1 h2=>?_
  have:=hw w h1
  simp only [lineF,List.getElem_map,List.getElem_range]
  cases hB:B w with
  | false=>rw [this.1 hB]; simp
  | true=>
   rcases this.2 hB with h | ⟨q,hq,_⟩
   ·rw [h]; simp [markF]
   ·cases hq
 ·obtain ⟨h1, h2, h3, h4⟩ := splits_memF hp
  obtain ⟨w,e,hlt,hB⟩:=hr _ h2
  obtain ⟨⟨k1,k2⟩,l2⟩:=p
  simp only at h1 h2 h3 h4 e ⊢
  subst e
  refine Yes.bind (Yes.idx rfl (by rw [hl]; exact hlt) (hkF _ ⟨by rw [List.length_set]; exact hl,fun q hq=>hr q (h3 q hq),fun v hv=>?_⟩ h1))
  rw [List.length_set] at hv
  simp only [Int.toNat_natCast]
  by_cases hvw:v=w
  ·subst hvw
   exact ⟨fun h=>absurd h (by rw [hB]; decide),fun _=>.inl (by simp)⟩
  ·rw [List.getElem_set_ne (fun h => hvw h.symm)]
   refine ⟨(hw v hv).1,fun hB'=>?_⟩
   rcases (hw v hv).2 hB' with h | ⟨q,hq,e'⟩
   ·exact .inl h
   ·rcases h4 q hq with rfl | hq
    ·exact absurd (by simp only at e'; omega) hvw
    ·exact .inr ⟨q,hq,e'⟩
def afterF (l:FaultLoom) (ds:List Zv):(Nat→Nat→Bool) × (Nat→Bool):=ds.foldl (fun s d=>(actTF l d s.1,actBF d s.2)) (tabF l,fun _=>false)
def rndF (l:FaultLoom) (ds:List Zv):List Str:=clothOfF l.Design.Rows.length l.Harness.Warps.length fun p w=>(afterF l ds).1 p (hkF l w) && !(afterF l ds).2 w
theorem after_takeF {l:FaultLoom} {ds:List Zv} {i:Nat} (hi:i < ds.length):afterF l (ds.take (i + 1))=(actTF l ds[i] (afterF l (ds.take i)).1,actBF ds[i] (afterF l (ds.take i)).2):=by
 unfold afterF
 rw [List.take_succ_eq_append_getElem hi,List.foldl_append]
 rfl
theorem s55F {l:FaultLoom} (g:GoodF l) {ds ds':List Zv} (hs:f146 ds (fun a0 a1=>f147 a0 a1)=some ds') (hl:ds.length ≤ 100000) (hl':ds'.length ≤ 100000) (hall:∀ d ∈ ds',dmgF l d=true):f74 ⟨l⟩ ds=some (rndF l ds'):=by
 have hr1:=g.r1
 have hw1:=g.w1
 refine Yes.eq ?_
 unfold f74 f71 f145
 refine Yes.bind (Yes.apnd (by simp; omega) (by simp; omega) (Yes.bind (Yes.apnd (by simp; omega) (by simp; omega) ?_)))
 rw [List.nil_append,List.nil_append]
 refine Yes.bind (Yes.of hs (Yes.bind ?_))
 refine Yes.upto2 ds'.length (by omega) (fun i rows br => TbF l.Design.Hooks.toNat l.Design.Rows.length rows (afterF l (ds'.take i)).1 ∧ BrF l.Harness.Warps.length br (afterF l (ds'.take i)).2 ∧ br.length ≤ i)
  ⟨tab_goodF g,⟨fun q hq=>by (cases hq),fun w hw=>by (cases hw)⟩,Nat.le_refl _⟩ (fun i rows br k hi hI hk'=>?_) (fun rows br k hI=>?_)
 ·obtain ⟨ht, hb, hlen⟩ := hI
  refine Yes.cond (fun _=>Yes.bind (Yes.bind (Yes.idx rfl hi (Yes.bind ((sfchgF g (hall _ (List.getElem_mem hi)) ht hb).mono fun r hr=>Yes.some (hk' _ _ ?_)))))) (fun h=>absurd h (by simp; omega))
  rw [after_takeF hi]
  exact ⟨hr.1,hr.2.1,by have:=hr.2.2; omega⟩
 ·obtain ⟨ht, hb, hlen⟩ := hI
  rw [List.take_length] at ht hb
  refine Yes.cond (fun h=>absurd h (by simp)) (fun _=>Yes.some (Yes.bind (Yes.of (s82F g ht) (Yes.bind ?_))))
  simp only
  rw [show (clothOfF l.Design.Rows.length l.Harness.Warps.length fun p w=>(afterF l ds').1 p (hkF l w)).length=l.Design.Rows.length by simp [clothOfF]]
  refine Yes.upto l.Design.Rows.length (by omega) (fun i r=>r=(List.range l.Design.Rows.length).map fun p=>lineF l.Harness.Warps.length fun w=>(afterF l ds').1 p (hkF l w) && !(decide (p < i) && (afterF l ds').2 w)) ?_ (fun i r k hi hI hk'=>?_) (fun r k hI=>?_)
  ·simp [clothOfF]
  ·subst hI
   refine Yes.cond (fun _=>Yes.bind (Yes.bind (Yes.idx rfl (by simpa using hi) (Yes.bind ?_)))) (fun h=>absurd h (by simp; omega))
   simp only [List.getElem_map,List.getElem_range]
   refine Yes.of (dotsF hb _ (by omega)) (Yes.bind (Yes.idx rfl (by simpa using hi) (Yes.some (hk' _ ?_))))
   rw [Int.toNat_natCast]
   refine List.ext_getElem (by simp) fun p h1 h2=>?_
   simp only [List.length_set,List.length_map,List.length_range] at h1
   rw [List.getElem_set]
   simp only [List.getElem_map,List.getElem_range]
   by_cases hpi:i=p
   ·subst hpi
    rw [if_pos rfl]
    show lineF _ _=lineF _ _
    congr 1; funext w; simp
   ·rw [if_neg hpi]
    congr 1; funext w
    have:(decide (p < i + 1))=decide (p < i):=by
     rw [Bool.eq_iff_iff]; simp; omega
    rw [this]
  ·subst hI
   refine Yes.cond (fun h=>absurd h (by simp)) (fun _=>Yes.some (Yes.some ?_))
   unfold rndF clothOfF
   refine List.map_congr_left fun p hp=>?_
   have hp:=List.mem_range.1 hp
   congr 1; funext w; simp [hp]
theorem lp_bigF {σ ρ:Type} (body:(σ→Option ρ)→σ→Option ρ) (s:σ):lp body big s=body (lp body 18446744073709551615) s:=by
 rw [show big=18446744073709551615 + 1 by unfold big; rfl]; rfl
theorem s107_fewF (xs:List Zv) (n:Int) (hn:n ≤ 1) (φ:Zv→Zv→Option Int):f270 xs 0 n φ=some xs:=by
 unfold f270
 rw [lp_bigF,w64_id (n:=0 + 1) (by decide) (by decide)]
 have:decide ((0:Int) + 1 < n)=false:=by simp; omega
 simp only [jn,this,cond_false]
theorem s96_fewF (xs:List Zv) (n:Int) (hn:n < 20) (φ:Zv→Zv→Option Int) (ys:List Zv) (h:f270 xs 0 n φ=some ys):f223 xs n φ=some ys:=by
 unfold f223
 rw [lp_bigF]
 have h1:decide ((20:Int) ≤ n)=false:=by simp; omega
 simp only [jn,h1,cond_false,Option.bind_some,h]
 rw [lp_bigF]
 have h2:decide ((20:Int) < n)=false:=by simp; omega
 simp only [h2,cond_false]
theorem s78_nilF:f146 [] (fun a0 a1=>f147 a0 a1)=some []:=by
 unfold f146; rw [s96_fewF [] _ (by simp) _ [] (s107_fewF _ _ (by simp) _)]; rfl
theorem s78_oneF (d:Zv):f146 [d] (fun a0 a1=>f147 a0 a1)=some [d]:=by
 unfold f146; rw [s96_fewF [d] _ (by simp) _ [d] (s107_fewF _ _ (by simp) _)]; rfl
def feedF {σ α : Type} (cons : Cons σ α) : List α → σ → Option σ
 | [],s=>some s
 | x :: xs,s=>(cons s x).bind fun r=>bif r.1 then feedF cons xs r.2 else some r.2
theorem line_lenF (m:Nat) (c:Nat→Bool):(lineF m c).b.length=m:=by simp [lineF]
theorem line_atF {m:Nat} {c:Nat→Bool} {j:Nat} (h:j < (lineF m c).b.length):(lineF m c).b[j]=markF (c j):=by simp [lineF]
theorem cloth_lenF (n m:Nat) (c:Nat→Nat→Bool):(clothOfF n m c).length=n:=by simp [clothOfF]
theorem cloth_atF {n m:Nat} {c:Nat→Nat→Bool} {i:Nat} (h:i < (clothOfF n m c).length):(clothOfF n m c)[i]=lineF m (c i):=by simp [clothOfF]
theorem s55_oneF {l:FaultLoom} (g:GoodF l) {d:Zv} (hd:dmgF l d=true):f74 ⟨l⟩ [d]=some (rndF l [d]):=
 s55F g (s78_oneF d) (by simp) (by simp) (fun x hx=>by rw [List.mem_singleton.1 hx]; exact hd)
def rcF (l:FaultLoom) (ds:List Zv) (p w:Nat):Bool:=(afterF l ds).1 p (hkF l w) && !(afterF l ds).2 w
theorem rnd_isF (l:FaultLoom) (ds:List Zv):rndF l ds=clothOfF l.Design.Rows.length l.Harness.Warps.length (rcF l ds):=rfl
theorem mark_xF (b:Bool):(markF b == (120:UInt8))=b:=by cases b <;> rfl
def SameF {α:Type} (a b:List α) (i:Nat):Prop:=∀ n (h1:n < a.length) (h2:n < b.length),n < i→a[n]=b[n]
theorem same_noF {α:Type} [DecidableEq α] {a b:List α} (h:((a.length:Int) != (b.length:Int))=true):false=decide (a=b):=by
 have:a ≠ b:=fun e=>by rw [e] at h; simp at h
 simp [this]
theorem same_lenF {α:Type} {a b:List α} (h:((a.length:Int) != (b.length:Int))=false):a.length=b.length:=by simp at h; omega
theorem same_zeroF {α:Type} (a b:List α):SameF a b 0:=fun _ _ _ h=>absurd h (Nat.not_lt_zero _)
theorem same_stepF {α : Type} [DecidableEq α] {a b : List α} {ne : α → α → Bool} (hne : ∀ x y, ne x y = !decide (x = y)) (hl : a.length = b.length) {i : Nat} (hi : i < a.length) (hI : SameF a b i) {k : Option Bool} (hkF : SameF a b (i + 1) → Yes k fun r => r = decide (a = b)) :
  Yes ((idx a (i:Int)).bind fun x=>(idx b (i:Int)).bind fun y=>bif ne x y then some false else k) (fun r=>r=decide (a=b)):=by
 refine Yes.bind (Yes.idx rfl hi (Yes.bind (Yes.idx rfl (by omega) (Yes.cond (fun h=>Yes.some ?_) (fun h=>hkF ?_)))))
 ·rw [hne] at h
  have hd:a[i] ≠ b[i]:=by simpa using h
  have:a ≠ b:=fun e=>hd (by simp only [e])
  simp [this]
 ·rw [hne] at h
  have he:a[i]=b[i]:=by simpa using h
  intro n h1 h2 hn
  rcases Nat.lt_succ_iff_lt_or_eq.1 hn with h | rfl
  ·exact hI n h1 h2 h
  ·exact he
theorem same_endF {α:Type} [DecidableEq α] {a b:List α} (hl:a.length=b.length) (hI:SameF a b a.length):true=decide (a=b):=by
 have:a=b:=List.ext_getElem hl fun n h1 h2=>hI n h1 h2 h1
 simp [this]
theorem str_neF (x y:Str):(!(x.b == y.b))=!decide (x=y):=by
 congr 1
 rw [Bool.eq_iff_iff]
 obtain ⟨x⟩:=x; obtain ⟨y⟩:=y
 simp
theorem s71F (a b:List Str) (ha:a.length < 9223372036854775807):f171 a b=some (decide (a=b)):=by
 refine Yes.eq ?_
 unfold f171
 refine Yes.jn (Yes.cond (fun h=>Yes.some (same_noF h)) (fun h=>?_))
 have hl:=same_lenF h
 refine Yes.jn (Yes.upto0 a.length ha (SameF a b) (same_zeroF a b) (fun i k hi hI hkF=>?_) (fun k hI=>?_))
 ·exact Yes.cond (fun _=>Yes.jn (same_stepF (ne:=(fun x y:Str=>!(x.b == y.b))) str_neF hl hi hI hkF)) (fun h=>absurd h (by simp; omega))
 ·exact Yes.cond (fun h=>absurd h (by simp)) (fun _=>Yes.some (same_endF hl hI))
def aCardF (n H:Nat):List Zv:=(List.range n).flatMap fun (p:Nat)=>(List.range H).map fun (h:Nat)=>⟨1,(p:Int),(h:Int),0,false⟩
def aNdlF (H:Nat):List Zv:=(List.range H).flatMap fun (h:Nat)=>[⟨2,0,(h:Int),0,false⟩,⟨2,0,(h:Int),0,true⟩]
def aRowF (k:Int) (n:Nat):List Zv:=(List.range n).map fun (p:Nat)=>⟨k,(p:Int),0,0,false⟩
def aThrF (m:Nat):List Zv:=(List.range m).map fun (w:Nat)=>⟨5,0,0,(w:Int),false⟩
def aDsF (n H m:Nat):List Zv:=aCardF n H ++ aNdlF H ++ aRowF 3 n ++ aRowF 4 n ++ aThrF m
def allDsF (l:FaultLoom):List Zv:=aDsF l.Design.Rows.length l.Design.Hooks.toNat l.Harness.Warps.length
theorem range_mulF {α : Type} (f : Nat → Nat → α) (H : Nat) (hH : 0 < H) : ∀ n, (List.range (n * H)).map (fun i => f (i / H) (i % H)) = (List.range n).flatMap fun p => (List.range H).map fun h => f p h
 | 0=>by simp
 | n + 1=>by
  rw [Nat.add_mul,Nat.one_mul,List.range_add,List.map_append,range_mulF f H hH n,List.range_succ,List.flatMap_append]
  congr 1
  simp only [List.map_map,List.flatMap_cons,List.flatMap_nil,List.append_nil]
  refine List.map_congr_left fun h hh=>?_
  have hh:=List.mem_range.1 hh
  simp only [Function.comp]
  rw [Nat.mul_comm n H,Nat.mul_add_div hH,Nat.mul_add_mod,Nat.div_eq_of_lt hh,Nat.mod_eq_of_lt hh,Nat.add_zero]
theorem aCard_lenF (n H:Nat):(aCardF n H).length=n * H:=by
 unfold aCardF
 induction n with
 | zero=>simp
 | succ n ih=>rw [List.range_succ,List.flatMap_append,List.length_append,ih,Nat.add_mul]; simp
theorem aNdl_lenF (H:Nat):(aNdlF H).length=2 * H:=by
 unfold aNdlF
 induction H with
 | zero=>simp
 | succ n ih=>rw [List.range_succ,List.flatMap_append,List.length_append,ih]; simp; omega
theorem quo_natF {a b:Nat} (hb:0 < b) (ha:a < 9223372036854775807):quo64 (a:Int) (b:Int)=some ((a / b:Nat):Int):=by
 unfold quo64
 have h1:a / b ≤ a:=Nat.div_le_self _ _
 rw [if_neg (by omega),Int.tdiv_eq_ediv_of_nonneg (by omega)]
 rw [show ((a:Int) / (b:Int))=((a / b:Nat):Int) from rfl]
 generalize a / b=q at h1
 rw [w64_id (by omega) (by omega)]
theorem rem_natF {a b:Nat} (hb:0 < b):rem64 (a:Int) (b:Int)=some ((a % b:Nat):Int):=by
 unfold rem64
 rw [if_neg (by omega),Int.tmod_eq_emod_of_nonneg (by omega)]
 rfl
theorem len_smallF {l:FaultLoom} (g:GoodF l):l.Design.Rows.length * l.Design.Hooks.toNat ≤ 1440:=by
 have:=g.r1; have:=g.h24
 have:l.Design.Rows.length * l.Design.Hooks.toNat ≤ 60 * 24:=Nat.mul_le_mul (by omega) (by omega)
 omega
theorem aDs_lenF (n H m:Nat):(aDsF n H m).length=n * H + 2 * H + n + n + m:=by
 unfold aDsF
 simp only [List.length_append,aCard_lenF,aNdl_lenF,aRowF,aThrF,List.length_map,List.length_range]
theorem allDs_lenF {l:FaultLoom} (g:GoodF l):(allDsF l).length ≤ 2000:=by
 have:=len_smallF g; have:=g.r1; have:=g.h24; have:=g.w1
 unfold allDsF
 rw [aDs_lenF]; omega
theorem s90F {l:FaultLoom} (g:GoodF l) {σ:Type} {cons:Cons σ Zv} {s t:σ} (h:feedF cons (allDsF l) s=some t):f170 ⟨l⟩ σ cons s=some t:=by
 have h1:=g.h1
 have h24:=g.h24
 have r1:=g.r1
 have w1:=g.w1
 have hs:=len_smallF g
 refine Yes.eq ?_
 unfold f170
 obtain ⟨H,hH⟩:∃ H:Nat,l.Design.Hooks=(H:Int):=⟨l.Design.Hooks.toNat,by omega⟩
 have eH:l.Design.Hooks.toNat=H:=by omega
 simp only
 rw [hH]
 rw [eH] at hs
 have e0:w64 ((l.Design.Rows.length:Int) * (H:Int))=((l.Design.Rows.length * H:Nat):Int):=by
  rw [← Int.natCast_mul]
  generalize l.Design.Rows.length * H=q at hs
  exact w64_id (by omega) (by omega)
 rw [e0]
 unfold allDsF at h
 rw [eH] at h
 have r1:l.Design.Rows.length ≤ 60:=g.r1
 generalize hn:l.Design.Rows.length=n at *
 generalize hm:l.Harness.Warps.length=m at *
 have hHp:0 < H:=by omega
 refine Yes.bind ?_
 refine Yes.upto (n * H) (by omega) (fun i r=>r=(List.range i).map fun i=>(⟨1,((i / H:Nat):Int),((i % H:Nat):Int),0,false⟩:Zv)) rfl (fun i r k hi hI hk'=>?_) (fun r k hI=>?_)
 ·subst hI
  refine Yes.cond (fun _=>Yes.bind (Yes.bind (Yes.of (quo_natF hHp (by omega)) (Yes.bind (Yes.of (rem_natF hHp) (Yes.bind (Yes.apnd (by simp; omega) (by simp; omega) (Yes.some (hk' _ ?_))))))))) (fun h=>absurd h (by simp; exact_mod_cast hi))
  rw [List.range_succ,List.map_append]; rfl
 refine Yes.cond (fun h=>absurd h (by simp)) (fun _=>Yes.some (Yes.bind ?_))
 rw [range_mulF (fun p h=>(⟨1,(p:Int),(h:Int),0,false⟩:Zv)) H hHp n] at hI
 change r=aCardF n H at hI
 subst hI
 refine Yes.upto H (by omega) (fun i r=>r=aCardF n H ++ aNdlF i) (by simp [aNdlF]) (fun i r k hi hI hk'=>?_) (fun r k hI=>?_)
 ·subst hI
  refine Yes.cond (fun _=>Yes.bind (Yes.bind (Yes.apnd (by simp [aCard_lenF,aNdl_lenF]; omega) (by simp [aCard_lenF,aNdl_lenF]; omega) (Yes.some (hk' _ ?_))))) (fun h=>absurd h (by simp; omega))
  unfold aNdlF
  rw [List.range_succ,List.flatMap_append,List.append_assoc]; rfl
 refine Yes.cond (fun h=>absurd h (by simp)) (fun _=>Yes.some (Yes.bind ?_))
 subst hI
 refine Yes.upto 2 (by omega) (fun i r=>r=aCardF n H ++ aNdlF H ++ (if 0 < i then aRowF 3 n else []) ++ (if 1 < i then aRowF 4 n else [])) (by simp) (fun i r k hi hI hk'=>?_) (fun r k hI=>?_)
 ·subst hI
  refine Yes.cond (fun _=>Yes.bind (Yes.bind (Yes.idx rfl (by simpa using hi) ?_))) (fun h=>absurd h (by simp; omega))
  match i,hi with
  | 0,_=>
   refine Yes.upto n (by omega) (fun i r=>r=aCardF n H ++ aNdlF H ++ aRowF 3 i) (by simp [aRowF]) (fun i r k2 hi hI hk2=>?_) (fun r k2 hI=>?_)
   ·subst hI
    refine Yes.cond (fun _=>Yes.bind (Yes.bind (Yes.apnd (by simp [aCard_lenF,aNdl_lenF,aRowF]; omega) (by simp [aCard_lenF,aNdl_lenF,aRowF]; omega) (Yes.some (hk2 _ ?_))))) (fun h=>absurd h (by simp; omega))
    unfold aRowF
    rw [List.range_succ,List.map_append,List.append_assoc (aCardF n H ++ aNdlF H)]; rfl
   ·subst hI
    exact Yes.cond (fun h=>absurd h (by simp)) (fun _=>Yes.some (hk' _ (by simp)))
  | 1,_=>
   refine Yes.upto n (by omega) (fun i r=>r=aCardF n H ++ aNdlF H ++ aRowF 3 n ++ aRowF 4 i) (by simp [aRowF]) (fun i r k2 hi hI hk2=>?_) (fun r k2 hI=>?_)
   ·subst hI
    refine Yes.cond (fun _=>Yes.bind (Yes.bind (Yes.apnd (by simp [aCard_lenF,aNdl_lenF,aRowF]; omega) (by simp [aCard_lenF,aNdl_lenF,aRowF]; omega) (Yes.some (hk2 _ ?_))))) (fun h=>absurd h (by simp; omega))
    rw [show aRowF 4 (i + 1)=aRowF 4 i ++ [⟨4,(i:Int),0,0,false⟩] by unfold aRowF; rw [List.range_succ,List.map_append]; rfl,← List.append_assoc]; rfl
   ·subst hI
    exact Yes.cond (fun h=>absurd h (by simp)) (fun _=>Yes.some (hk' _ (by simp)))
  | i + 2,hi=>omega
 refine Yes.cond (fun h=>absurd h (by simp)) (fun _=>Yes.some (Yes.bind ?_))
 simp only [show (0:Nat) < 2 by decide,show (1:Nat) < 2 by decide,if_true] at hI
 subst hI
 refine Yes.upto m (by omega) (fun i r=>r=aCardF n H ++ aNdlF H ++ aRowF 3 n ++ aRowF 4 n ++ aThrF i) (by simp [aThrF]) (fun i r k hi hI hk'=>?_) (fun r k hI=>?_)
 ·subst hI
  refine Yes.cond (fun _=>Yes.bind (Yes.bind (Yes.apnd (by simp [aCard_lenF,aNdl_lenF,aRowF,aThrF]; omega) (by simp [aCard_lenF,aNdl_lenF,aRowF,aThrF]; omega) (Yes.some (hk' _ ?_))))) (fun h=>absurd h (by simp; omega))
  rw [show aThrF (i + 1)=aThrF i ++ [⟨5,0,0,(i:Int),false⟩] by unfold aThrF; rw [List.range_succ,List.map_append]; rfl,← List.append_assoc]
 refine Yes.cond (fun h=>absurd h (by simp)) (fun _=>Yes.some ?_)
 change r=aDsF n H m at hI
 subst hI
 have hlen:(aDsF n H m).length ≤ 2000:=by rw [aDs_lenF]; omega
 generalize aDsF n H m=ds at *
 refine Yes.upto ds.length (by omega) (fun i s=>feedF cons (ds.drop i) s=some t) h (fun i s k hi hI hk'=>?_) (fun s k hI=>?_)
 ·rw [List.drop_eq_getElem_cons hi] at hI
  obtain ⟨⟨b,s'⟩,hc,hr⟩:=Ge hI
  refine Yes.cond (fun _=>Yes.jn (Yes.bind (Yes.idx rfl hi (Yes.bind (Yes.of hc (Yes.cond (fun hb=>?_) (fun hb=>?_))))))) (fun h=>absurd h (by simp; omega))
  ·have hb : b = false := by simpa using hb
   subst hb
   exact Yes.some (Option.some.inj hr)
  ·have hb : b = true := by simpa using hb
   subst hb
   exact hk' _ hr
 ·rw [List.drop_length] at hI
  exact Yes.cond (fun h=>absurd h (by simp)) (fun _=>Yes.some (Option.some.inj hI))
def shF (l:FaultLoom) (d:Zv):Bool:=!decide (rndF l [d]=rndF l [])
theorem s55_nilF {l:FaultLoom} (g:GoodF l):f74 ⟨l⟩ []=some (rndF l []):=s55F g s78_nilF (by simp) (by simp) (fun x hx=>by cases hx)
theorem rnd_lenF (l:FaultLoom) (ds:List Zv):(rndF l ds).length=l.Design.Rows.length:=by simp [rndF,clothOfF]
theorem allDs_okF {l:FaultLoom} (g:GoodF l):∀ d ∈ allDsF l,dmgF l d=true:=by
 have h1:=g.h1
 intro d hd
 unfold allDsF aDsF at hd
 simp only [List.mem_append] at hd
 rcases hd with (((hd | hd) | hd) | hd) | hd
 ·obtain ⟨p, hp, hd⟩ := List.mem_flatMap.1 hd
  obtain ⟨h,hh,rfl⟩:=List.mem_map.1 hd
  have hp:=List.mem_range.1 hp
  have hh:=List.mem_range.1 hh
  simp [dmgF,btwF]; omega
 ·obtain ⟨h, hh, hd⟩ := List.mem_flatMap.1 hd
  have hh:=List.mem_range.1 hh
  simp only [List.mem_cons,List.not_mem_nil,or_false] at hd
  rcases hd with rfl | rfl <;> simp [dmgF,btwF] <;> omega
 ·obtain ⟨p, hp, rfl⟩ := List.mem_map.1 hd
  have hp:=List.mem_range.1 hp
  simp [dmgF,btwF]; omega
 ·obtain ⟨p, hp, rfl⟩ := List.mem_map.1 hd
  have hp:=List.mem_range.1 hp
  simp [dmgF,btwF]; omega
 ·obtain ⟨p, hp, rfl⟩ := List.mem_map.1 hd
  have hp:=List.mem_range.1 hp
  simp [dmgF,btwF]; omega
def showsF (l:FaultLoom):List Zv:=(allDsF l).filter (shF l)
theorem feed_showF {l : FaultLoom} (g : GoodF l) {σ : Type} {cons : Cons σ (Zv × (List Str))} {t : σ} : ∀ (ds : List Zv) (s : σ), (∀ d ∈ ds, dmgF l d = true) → feedF cons ((ds.filter (shF l)).map fun d => (d, rndF l [d])) s = some t →
  ∃ st,feedF (guardC fun cs xa=>(f74 ⟨l⟩ (([xa]:List Zv))).bind fun y44=>Option.bind (α:=σ × Bool) ((f171 y44 (rndF l [])).bind fun y55=>bif (!y55) then (cons cs (xa,y44)).bind fun (yb59,ys59)=>some (ys59,(!yb59)) else some (cs,false)) fun (cs_61,s26_61)=>
   bif s26_61 then some (false,((1:Nat),(cs_61))) else some (true,((0:Nat),(cs_61)))) ds ((0:Nat),s)=some (st,t)
 | [],s,_,h=>⟨0,by rw [← Option.some.inj h]; rfl⟩
 | d :: ds,s,hv,h=>by
  have hd:=hv d List.mem_cons_self
  have hds:∀ d ∈ ds,dmgF l d=true:=fun x hx=>hv x (List.mem_cons_of_mem _ hx)
  have hr1:=g.r1
  unfold feedF
  have e1:f74 ⟨l⟩ [d]=some (rndF l [d]):=s55_oneF g hd
  have e2:f171 (rndF l [d]) (rndF l [])=some (decide (rndF l [d]=rndF l [])):=s71F _ _ (by rw [rnd_lenF]; omega)
  have e3:decide (rndF l [d]=rndF l [])=!shF l d:=by simp [shF]
  simp only [guardC,e1,e2,Option.bind_some,e3,Bool.not_not,Nat.beq_refl,cond_true]
  cases hs:shF l d with
  | false=>
   rw [List.filter_cons_of_neg (by simp [hs])] at h
   simpa using feed_showF g ds s hds h
  | true=>
   rw [List.filter_cons_of_pos hs,List.map_cons] at h
   obtain ⟨⟨b,s'⟩,hc,hr⟩:=Ge h
   simp only [cond_true,hc,Option.bind_some]
   cases b with
   | false=>
    have:s'=t:=Option.some.inj hr
    subst this
    exact ⟨1,rfl⟩
   | true=>simpa using feed_showF g ds s' hds hr
theorem s64F {l:FaultLoom} (g:GoodF l) {σ:Type} {cons:Cons σ (Zv × (List Str))} {s t:σ} (h:feedF cons ((showsF l).map fun d=>(d,rndF l [d])) s=some t):f96 ⟨l⟩ σ cons s=some t:=by
 obtain ⟨st,hst⟩:=feed_showF g (allDsF l) s (allDs_okF g) h
 have h90:=s90F g hst
 unfold f96
 simp only [s55_nilF g,Option.bind_some,h90]
 cases Nat.beq st 0 <;> rfl
theorem feed_appF {α β : Type} {cons : Cons (List β) α} (f : α → List β) (B : Nat) : ∀ (xs : List α) (m : List β), (∀ x ∈ xs, (f x).length ≤ 1) → m.length + xs.length ≤ B → (∀ m x, x ∈ xs → m.length < B → cons m x = some (true, m ++ f x)) → feedF cons xs m = some (m ++ xs.flatMap f)
 | [],m,_,_,_=>by simp [feedF]
 | x :: xs,m,h1,hB,h=>by
  unfold feedF
  have hx:=h1 x List.mem_cons_self
  simp only [List.length_cons] at hB
  rw [h m x List.mem_cons_self (by omega)]
  simp only [Option.bind_some,cond_true]
  rw [feed_appF f B xs (m ++ f x) (fun y hy=>h1 y (List.mem_cons_of_mem _ hy)) (by rw [List.length_append]; omega) (fun m y hy hm=>h m y (List.mem_cons_of_mem _ hy) hm)]
  simp
end Go.Proofs.Ytjoniingnbmljaa
