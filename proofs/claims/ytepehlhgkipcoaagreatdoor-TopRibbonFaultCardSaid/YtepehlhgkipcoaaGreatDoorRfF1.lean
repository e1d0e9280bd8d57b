/- Laws of plain functions, part 1. -/
import Derived.Test.YtepehlhgkipcoaaGreatDoorRfA2
set_option maxRecDepth 8000
namespace Go.Proofs.YtepehlhgkipcoaaGreatDoor
open Go.RowKit
open Classical
theorem s105F (x a b:Int):f102 x a b=some (!decide (a ≤ x∧x ≤ b)):=by unfold f102; by_cases h1:x < a <;> by_cases h2:x > b <;> simp [h1,h2] <;> omega
theorem s87F (xs:List Int) (φ:Int→Option Bool) (p:Int→Bool) (hl:xs.length < 9223372036854775807) (h:∀ a ∈ xs,φ a=some (p a)):f64 xs φ=some (xs.any p):=
 Yes.eq (Yes.bind (Yes.mono (Yd xs φ p hl h) fun _ hr=>Yes.some (Jl hr)))
theorem s53F (xs:List Zv) (φ:Zv→Option Bool) (p:Zv→Bool) (hl:xs.length < 9223372036854775807) (h:∀ a ∈ xs,φ a=some (p a)):f89 xs φ=some (xs.any p):=
 Yes.eq (Yes.bind (Yes.mono (Yd xs φ p hl h) fun _ hr=>Yes.some (Jl hr)))
theorem N1 (xs:List Int) (p:Int→Bool):(!(xs.any fun x=>!p x))=xs.all p:=by induction xs <;> simp_all
theorem Ei (a b:Int) (xs:List Int) (hl:xs.length < 9223372036854775807):f67 a b xs=some (xs.all fun x=>decide (a ≤ x∧x ≤ b)):=by
 unfold f67; rw [s87F xs _ (fun x=>!decide (a ≤ x∧x ≤ b)) hl (fun x _=>s105F x a b)]
 show some (!(xs.any fun x=>!decide (a ≤ x∧x ≤ b)))=_
 rw [N1]
theorem s95F (a b:Int) (xs:List Int) (hl:xs.length < 9223372036854775807):f125 a b xs=some (xs.all fun x=>decide (a ≤ x∧x ≤ b)):=Ei a b xs hl
theorem s62F (a b:Int) (xs:List Int) (hl:xs.length < 9223372036854775807):f51 a b xs=some (xs.all fun x=>decide (a ≤ x∧x ≤ b)):=Ei a b xs hl

def Wc (a b x:Int):Bool:=decide (a ≤ x∧x ≤ b)
def Yw (h:TieHarness):Int:=if Wc 1 24 h.Hooks then if h.Warps.length > 96 then 5 else if h.Warps.length=0 then 7 else if h.Warps.all (Wc 0 (h.Hooks - 1)) then 0 else 2 else 2
def Y0 (d:Design):Int:=if Wc 1 24 d.Hooks then if d.Rows.length > 60 then 5 else if d.Rows.length=0 then 7 else if d.Rows.all (Wc 0 (2 ^ d.Hooks.toNat - 1)) then 0 else 2 else 2
def J2 (l:FaultLoom):Int:=if Yw l.Harness ≠ 0 then Yw l.Harness else if Y0 l.Design ≠ 0 then Y0 l.Design else if l.Harness.Hooks ≠ l.Design.Hooks then 4 else 0
theorem s73F (h:TieHarness):f35 h=some (Yw h):=by
 refine Yes.eq ?_
 unfold f35
 refine Yes.jn (Yes.bind (Yes.of (Ei _ _ _ (by simp)) (Yes.cond (fun h1=>Yes.some ?_) (fun h1=>?_))))
 ·have : Wc 1 24 h.Hooks = false := by simp [Wc] at h1 ⊢; omega
  simp [Yw,this]
 have hb:Wc 1 24 h.Hooks=true:=by simpa [Wc] using h1
 have hb':1 ≤ h.Hooks∧h.Hooks ≤ 24:=by simpa [Wc] using hb
 refine Yes.cond (fun h2=>Yes.some ?_) (fun h2=>?_)
 ·have : h.Warps.length > 96 := by simp at h2; omega
  simp [Yw,hb,this]
 have h2':¬ h.Warps.length > 96:=by simp at h2; omega
 refine Yes.cond (fun h3=>Yes.some ?_) (fun h3=>?_)
 ·have : h.Warps.length = 0 := by simpa using h3
  simp [Yw,hb,this]
 have h3':¬ h.Warps.length=0:=by simpa using h3
 rw [Qj (n:=h.Hooks - 1) (by omega) (by omega)]
 refine Yes.bind (Yes.of (Ei _ _ _ (by omega)) (Yes.cond (fun h4=>Yes.some ?_) (fun h4=>Yes.some ?_)))
 ·have : h.Warps.all (Wc 0 (h.Hooks - 1)) = false := by simpa [Wc] using h4
  simp [Yw,hb,h2',h3',this]
 ·have : h.Warps.all (Wc 0 (h.Hooks - 1)) = true := by simpa [Wc] using h4
  simp [Yw,hb,h2',h3',this]
theorem S3 {n:Int} (h1:1 ≤ n) (h2:n ≤ 24):(1:Int) ≤ 2 ^ n.toNat∧(2:Int) ^ n.toNat ≤ 16777216:=by
 have a:1 ≤ 2 ^ n.toNat:=Nat.one_le_two_pow
 have b:2 ^ n.toNat ≤ 2 ^ 24:=Nat.pow_le_pow_right (by omega) (by omega)
 have c:((2 ^ n.toNat:Nat):Int)=(2:Int) ^ n.toNat:=by simp
 rw [← c]; omega
theorem Oo {n:Int} (h1:1 ≤ n) (h2:n ≤ 24):Hb 1 n=some (2 ^ n.toNat):=by
 unfold Hb
 have ⟨a,b⟩:=S3 h1 h2
 rw [if_neg (by omega),show min n.toNat 64=n.toNat by omega,Int.one_mul,Qj (by omega) (by omega)]
theorem s74F (d:Design):f84 d=some (Y0 d):=by
 refine Yes.eq ?_
 unfold f84
 refine Yes.jn (Yes.bind (Yes.of (s95F _ _ _ (by simp)) (Yes.cond (fun h1=>Yes.some ?_) (fun h1=>?_))))
 ·have : Wc 1 24 d.Hooks = false := by simp [Wc] at h1 ⊢; omega
  simp [Y0,this]
 have hb:Wc 1 24 d.Hooks=true:=by simpa [Wc] using h1
 have hb':1 ≤ d.Hooks∧d.Hooks ≤ 24:=by simpa [Wc] using hb
 refine Yes.cond (fun h2=>Yes.some ?_) (fun h2=>?_)
 ·have : d.Rows.length > 60 := by simp at h2; omega
  simp [Y0,hb,this]
 have h2':¬ d.Rows.length > 60:=by simp at h2; omega
 refine Yes.cond (fun h3=>Yes.some ?_) (fun h3=>?_)
 ·have : d.Rows.length = 0 := by simpa using h3
  simp [Y0,hb,this]
 have h3':¬ d.Rows.length=0:=by simpa using h3
 have ⟨pa,pb⟩:=S3 hb'.1 hb'.2
 refine Yes.bind (Yes.of (Oo hb'.1 hb'.2) ?_)
 rw [Qj (n:=2 ^ d.Hooks.toNat - 1) (by omega) (by omega)]
 refine Yes.bind (Yes.of (s95F _ _ _ (by omega)) (Yes.cond (fun h4=>Yes.some ?_) (fun h4=>Yes.some ?_)))
 ·have : d.Rows.all (Wc 0 (2 ^ d.Hooks.toNat - 1)) = false := by simpa [Wc] using h4
  simp [Y0,hb,h2',h3',this]
 ·have : d.Rows.all (Wc 0 (2 ^ d.Hooks.toNat - 1)) = true := by simpa [Wc] using h4
  simp [Y0,hb,h2',h3',this]
theorem Ig (l : FaultLoom) (x : Option Int) (y : Option Int) (hx : x = some (Yw l.Harness)) (hy : y = some (Y0 l.Design)) :
  (jn (σ:=Unit) (fun _=>jn (σ:=Unit) (fun _=>jn (σ:=Unit) (fun _=>some ((0:Int))) fun k33=>bif ((l.Harness).Hooks != (l.Design).Hooks) then some ((4:Int)) else k33 ()) fun k19=>
   y.bind fun y23=>bif (y23 != (0:Int)) then some (y23) else k19 ()) fun k7=>x.bind fun y11=>bif (y11 != (0:Int)) then some (y11) else k7 ())=some (J2 l):=by
 subst hx; subst hy
 unfold J2 jn
 by_cases h1:Yw l.Harness=0 <;> by_cases h2:Y0 l.Design=0 <;> by_cases h3:l.Harness.Hooks=l.Design.Hooks <;> simp [h1,h2,h3,bne,BEq.beq]
theorem s50F (l:FaultLoom):f86 l=some (J2 l):=Ig l _ _ (s73F _) (s74F _)
structure H2 (l : FaultLoom) : Prop where
 h1:1 ≤ l.Design.Hooks
 h24:l.Design.Hooks ≤ 24
 hh:l.Harness.Hooks=l.Design.Hooks
 w0:0 < l.Harness.Warps.length
 w1:l.Harness.Warps.length ≤ 96
 r0:0 < l.Design.Rows.length
 r1:l.Design.Rows.length ≤ 60
 warp:∀ x ∈ l.Harness.Warps,0 ≤ x∧x < l.Design.Hooks
 row:∀ x ∈ l.Design.Rows,0 ≤ x∧x < 2 ^ l.Design.Hooks.toNat
theorem Pd {l:FaultLoom} (h:J2 l=0):H2 l:=by
 unfold J2 at h
 split at h
 ·rename_i h1; exact absurd h h1
 rename_i h1
 split at h
 ·rename_i h2; exact absurd h h2
 rename_i h2
 split at h
 ·cases h
 rename_i h3
 have h1:Yw l.Harness=0:=Decidable.not_not.1 h1
 have h2:Y0 l.Design=0:=Decidable.not_not.1 h2
 have h3:l.Harness.Hooks=l.Design.Hooks:=Decidable.not_not.1 h3
 unfold Yw at h1
 unfold Y0 at h2
 split at h1
 case isFalse=>cases h1
 split at h1
 ·cases h1
 split at h1
 ·cases h1
 split at h1
 case isFalse=>cases h1
 split at h2
 case isFalse=>cases h2
 split at h2
 ·cases h2
 split at h2
 ·cases h2
 split at h2
 case isFalse=>cases h2
 rename_i a1 a2 a3 a4 b1 b2 b3 b4
 simp only [Wc,decide_eq_true_eq,List.all_eq_true] at a1 a4 b1 b4
 exact ⟨b1.1,b1.2,h3,by omega,by omega,by omega,by omega,fun x hx=>by have:=a4 x hx; omega,fun x hx=>by have:=b4 x hx; omega⟩
def U6 (l:FaultLoom) (d:Zv):Bool:=
 if d.Kind=1 then Wc 0 (l.Design.Rows.length - 1) d.Pick && Wc 0 (l.Design.Hooks - 1) d.Hook && decide (d.Warp=0) && !d.Up
 else if d.Kind=2 then Wc 0 (l.Design.Hooks - 1) d.Hook && decide (d.Pick=0) && decide (d.Warp=0)
 else if d.Kind=3 ∨ d.Kind=4 then Wc 0 (l.Design.Rows.length - 1) d.Pick && decide (d.Hook=0) && decide (d.Warp=0) && !d.Up
 else if d.Kind=5 then Wc 0 (l.Harness.Warps.length - 1) d.Warp && decide (d.Pick=0) && decide (d.Hook=0) && !d.Up
 else false
theorem s52F {l:FaultLoom} (g:H2 l) (d:Zv):f88 ⟨l⟩ d=some (U6 l d):=by
 unfold f88
 obtain ⟨g1,g2,_,g3,g4,g5,g6,_,_⟩:=g
 simp only
 rw [Qj (n:=(l.Design.Rows.length:Int) - 1) (by omega) (by omega),Qj (n:=l.Design.Hooks - 1) (by omega) (by omega),Qj (n:=(l.Harness.Warps.length:Int) - 1) (by omega) (by omega)]
 simp only [s62F _ _ [d.Pick] (by simp),s62F _ _ [d.Hook] (by simp),s62F _ _ [d.Warp] (by simp),List.all_cons,List.all_nil,Bool.and_true,Option.bind_some,← Wc.eq_1]
 have b0:Wc 0 (l.Design.Hooks - 1) 0=true:=by simp [Wc]; omega
 have b1:Wc 0 ((l.Design.Rows.length:Int) - 1) 0=true:=by simp [Wc]; omega
 have b2:Wc 0 ((l.Harness.Warps.length:Int) - 1) 0=true:=by simp [Wc]; omega
 obtain ⟨k,p,h,w,u⟩:=d
 unfold U6
 simp only
 have e:∀ a b:Int,(a == b)=decide (a=b):=fun a b=>by rw [Bool.eq_iff_iff]; simp
 simp only [e]
 by_cases k1:k=1
 ·subst k1
  by_cases q:w=0 <;> cases u <;> simp [q,b2]
  cases Wc 0 ((l.Design.Rows.length:Int) - 1) p <;> cases Wc 0 (l.Design.Hooks - 1) h <;> simp
 by_cases k2:k=2
 ·subst k2
  by_cases q:p=0 <;> by_cases r:w=0 <;> simp [q,r,b1,b2]
  cases Wc 0 (l.Design.Hooks - 1) h <;> simp
 by_cases k3:k=3
 ·subst k3
  by_cases q:h=0 <;> by_cases r:w=0 <;> cases u <;> simp [q,r,b0,b2]
  cases Wc 0 ((l.Design.Rows.length:Int) - 1) p <;> simp
 by_cases k4:k=4
 ·subst k4
  by_cases q:h=0 <;> by_cases r:w=0 <;> cases u <;> simp [q,r,b0,b2]
  cases Wc 0 ((l.Design.Rows.length:Int) - 1) p <;> simp
 by_cases k5:k=5
 ·subst k5
  by_cases q:p=0 <;> by_cases r:h=0 <;> cases u <;> simp [q,r,b0,b1]
 simp [k1,k2,k3,k4,k5]
def J0 (l:FaultLoom) (ds:List Zv):Int:=if J2 l ≠ 0 then J2 l else if ds.length > 100 then 5 else if ds.all (U6 l) then 0 else 2
theorem s18F (l:FaultLoom) (ds:List Zv):f50 l ds=some (J0 l ds):=by
 refine Yes.eq ?_
 unfold f50
 refine Yes.jn (Yes.bind (Yes.of (s50F l) (Yes.cond (fun h=>Yes.some ?_) (fun h=>Yes.jn (Yes.cond (fun h2=>Yes.some ?_) (fun h2=>?_))))))
 ·have : J2 l ≠ 0 := by simpa using h
  simp [J0,this]
 all_goals have h0:J2 l=0:=by simpa using h
 ·have : ds.length > 100 := by simp at h2; omega
  simp [J0,h0,this]
 have h2':¬ ds.length > 100:=by simp at h2; omega
 have hg:=Pd h0
 have h53:=s53F ds (fun a0=>f87 a0 l) (fun d=>!U6 l d) (by omega) fun d _=>by unfold f87; rw [s52F hg d]; rfl
 refine Yes.bind (Yes.of h53 (Yes.cond (fun h3=>Yes.some ?_) (fun h3=>Yes.some ?_)))
 ·have:ds.all (U6 l)=false:=by
   rw [List.any_eq_true] at h3
   obtain ⟨d,hd,hn⟩:=h3
   exact List.all_eq_false.2 ⟨d,hd,by simpa using hn⟩
  simp [J0,h0,h2',this]
 ·have:ds.all (U6 l)=true:=by
   rw [List.any_eq_false] at h3
   exact List.all_eq_true.2 fun d hd=>by simpa using h3 d hd
  simp [J0,h0,h2',this]
theorem St:(2:Nat) ^ 62=4611686018427387904:=by decide
theorem Hn {a:Nat} (ha:a < 2 ^ 62):(BitVec.ofInt 64 (a:Int)).toNat=a:=by
 rw [BitVec.ofInt_natCast,BitVec.toNat_ofNat]
 exact Nat.mod_eq_of_lt (by rw [St] at ha; omega)
theorem Ai {a b:Nat} (ha:a < 2 ^ 62) (hb:b < 2 ^ 62):Qd .xor a b=((a ^^^ b:Nat):Int):=by
 have hx:a ^^^ b < 2 ^ 62:=Nat.xor_lt_two_pow ha hb
 unfold Qd
 simp only [BitVec.toNat_xor,Hn ha,Hn hb]
 rw [St] at hx
 exact Qj (by omega) (by omega)
theorem or64F {a b:Nat} (ha:a < 2 ^ 62) (hb:b < 2 ^ 62):Qd .or a b=((a ||| b:Nat):Int):=by
 have hx:a ||| b < 2 ^ 62:=Nat.or_lt_two_pow ha hb
 unfold Qd
 simp only [BitVec.toNat_or,Hn ha,Hn hb]
 rw [St] at hx
 exact Qj (by omega) (by omega)
theorem Ok {a b:Nat} (ha:a < 2 ^ 62) (hb:b < 2 ^ 62):Qd .and a b=((a &&& b:Nat):Int):=by
 have hx:a &&& b < 2 ^ 62:=Nat.and_lt_two_pow a hb
 unfold Qd
 simp only [BitVec.toNat_and,Hn ha,Hn hb]
 rw [St] at hx
 exact Qj (by omega) (by omega)
theorem S1 {h:Nat} (hh:h < 62):Hb 1 (h:Int)=some ((2 ^ h:Nat):Int):=by
 have hx:2 ^ h < 2 ^ 62:=Nat.pow_lt_pow_right (by decide) hh
 rw [St] at hx
 unfold Hb
 rw [if_neg (by omega),show min (h:Int).toNat 64=h by simp; omega,Int.one_mul]
 rw [show ((2:Int) ^ h)=((2 ^ h:Nat):Int) by simp]
 generalize 2 ^ h=q at hx ⊢
 rw [Qj (by omega) (by omega)]
theorem Ip {a:Nat} (ha:a < 2 ^ 60):Hb (a:Int) 1=some ((2 * a:Nat):Int):=by
 have:(2:Nat) ^ 60=1152921504606846976:=by decide
 rw [this] at ha
 unfold Hb
 rw [if_neg (by omega),show min (1:Int).toNat 64=1 by rfl]
 rw [Qj (by omega) (by omega)]
 simp; omega
theorem Lg {a h:Nat} (hh:h < 62):W8 (a:Int) (h:Int)=some ((a >>> h:Nat):Int):=by
 unfold W8
 rw [if_neg (by omega),show min (h:Int).toNat 64=h by simp; omega]
 congr 1
 rw [show ((2:Int) ^ h)=((2 ^ h:Nat):Int) by simp,Nat.shiftRight_eq_div_pow]
 generalize 2 ^ h=q
 rw [Int.fdiv_eq_ediv_of_nonneg _ (by omega)]
 exact (Int.natCast_ediv a q).symm

def TbF (H n:Nat) (rows:List Int) (t:Nat→Nat→Bool):Prop:=
 rows.length=n∧∀ p (hp:p < rows.length),∃ a:Nat,rows[p]=(a:Int)∧a < 2 ^ H∧∀ h,h < H→a.testBit h=t p h
theorem Cy {H:Nat} (hH:H ≤ 24) {a:Nat} (ha:a < 2 ^ H):a < 2 ^ 24:=Nat.lt_of_lt_of_le ha (Nat.pow_le_pow_right (by decide) hH)
theorem Ol:(2:Nat) ^ 24 < 2 ^ 62:=by decide
theorem Xw {H:Nat} (hH:H ≤ 24) {a:Nat} (ha:a < 2 ^ H):a < 2 ^ 62:=Nat.lt_trans (Cy hH ha) Ol
theorem TbF.set {H n:Nat} {rows:List Int} {t t':Nat→Nat→Bool} (ht:TbF H n rows t) {p:Nat} {a:Nat} (ha:a < 2 ^ H) (h1:∀ h,h < H→a.testBit h=t' p h) (h2:∀ q h,q ≠ p→h < H→t' q h=t q h):TbF H n (rows.set p (a:Int)) t':=by
 refine ⟨by rw [List.length_set]; exact ht.1,fun q hq=>?_⟩
 rw [List.length_set] at hq
 by_cases hqp:q=p
 ·subst hqp
  exact ⟨a,by simp,ha,h1⟩
 ·obtain ⟨b, hb, hb2, hb3⟩ := ht.2 q hq
  refine ⟨b,?_,hb2,fun h hh=>by rw [hb3 h hh,h2 q h hqp hh]⟩
  rw [List.getElem_set_ne (fun e=>hqp e.symm)]; exact hb
def Bn (p h:Nat) (t:Nat→Nat→Bool):Nat→Nat→Bool:=fun q k=>if q=p∧k=h then !t q k else t q k
theorem s97F {H n : Nat} (hH : H ≤ 24) {rows : List Int} {t : Nat → Nat → Bool} (ht : TbF H n rows t) (l : Gl) {d : Zv} {p h : Nat} (hp : d.Pick = p) (hpn : p < n) (hh : d.Hook = h) (hhH : h < H) :
  Yes (f92 l d rows) fun r=>TbF H n r (Bn p h t):=by
 obtain ⟨a,ha,ha2,ha3⟩:=ht.2 p (by rw [ht.1]; exact hpn)
 have hpl:p < rows.length:=by rw [ht.1]; exact hpn
 unfold f92
 refine Yes.bind (Yes.idx hp hpl (Yes.bind (Yes.of (by rw [hh]; exact S1 (by omega)) (Yes.bind (Yes.idx hp hpl (Yes.some ?_))))))
 have h2:2 ^ h < 2 ^ H:=Nat.pow_lt_pow_right (by decide) hhH
 rw [ha,Ai (Xw hH ha2) (Xw hH h2),hp,Int.toNat_natCast]
 refine ht.set (Nat.xor_lt_two_pow ha2 h2) (fun k hkF=>?_) (fun q k hq _=>by simp [Bn,hq])
 rw [Nat.testBit_xor,ha3 k hkF,Nat.testBit_two_pow]
 by_cases e:k=h
 ·subst e; simp [Bn]
 ·simp [Bn,e,Ne.symm e]
def Ap (p q:Nat) (t:Nat→Nat→Bool):Nat→Nat→Bool:=fun r k=>if r=q then t p k else if r=p then t q k else t r k
theorem s100F {H n : Nat} {rows : List Int} {t : Nat → Nat → Bool} (ht : TbF H n rows t) (hn : n ≤ 1000) (l : Gl) {d : Zv} {p : Nat} (hp : d.Pick = p) (hpn : p < n) :
  Yes (f95 l d rows) fun r=>TbF H n r (Ap p ((p + 1) % n) t):=by
 have hpl:p < rows.length:=by rw [ht.1]; exact hpn
 have hql:(p + 1) % n < rows.length:=by rw [ht.1]; exact Nat.mod_lt _ (by omega)
 obtain ⟨a,ha,ha2,ha3⟩:=ht.2 p hpl
 obtain ⟨b,hb,hb2,hb3⟩:=ht.2 _ hql
 unfold f95
 have hrem:Hd (w64 (d.Pick + 1)) (rows.length:Int)=some (((p + 1) % n:Nat):Int):=by
  rw [hp,Qj (by omega) (by omega),ht.1]
  unfold Hd
  rw [if_neg (by omega)]
  rw [Int.tmod_eq_emod_of_nonneg (by omega)]
  rfl
 refine Yes.bind (Yes.of hrem (Yes.bind (Yes.idx hp hpl (Yes.bind (Yes.idx rfl hql (Yes.bind (Yes.idx hp hpl (Yes.bind (Yes.idx rfl (by rw [List.length_set]; exact hql) (Yes.some ?_))))))))))
 rw [ha,hb,hp,Int.toNat_natCast,Int.toNat_natCast]
 have s1:TbF H n (rows.set p (b:Int)) (fun r k=>if r=p then t ((p + 1) % n) k else t r k):=ht.set hb2 (fun k hkF=>by rw [hb3 k hkF]; simp) (fun q k hq _=>by simp [hq])
 exact s1.set ha2 (fun k hkF=>by rw [ha3 k hkF]; simp [Ap]) (fun q k hq _=>by simp [Ap,hq])
def Sy (h:Nat) (u:Bool) (t:Nat→Nat→Bool):Nat→Nat→Bool:=fun q k=>if k=h then u else t q k
theorem s98F {H n : Nat} (hH : H ≤ 24) {rows : List Int} {t : Nat → Nat → Bool} (ht : TbF H n rows t) (hn : n ≤ 1000) (l : Gl) {d : Zv} {h : Nat} (hh : d.Hook = h) (hhH : h < H) :
  Yes (f93 l d rows) fun r=>TbF H n r (Sy h d.Up t):=by
 unfold f93
 have h2:2 ^ h < 2 ^ H:=Nat.pow_lt_pow_right (by decide) hhH
 have hsh:Hb 1 d.Hook=some ((2 ^ h:Nat):Int):=by rw [hh]; exact S1 (by omega)
 rw [show rows.length=n from ht.1]
 refine Yes.upto n (by omega) (fun i r=>TbF H n r (fun q k=>if q < i then Sy h d.Up t q k else t q k)) (by simpa using ht) (fun i r k hi hI hkF=>?_) (fun r k hI=>?_)
 ·obtain ⟨a, ha, ha2, ha3⟩ := hI.2 i (by rw [hI.1]; exact hi)
  have hil:i < r.length:=by rw [hI.1]; exact hi
  have hor:a ||| 2 ^ h < 2 ^ H:=Nat.or_lt_two_pow ha2 h2
  refine Yes.cond (fun _=>Yes.bind ?_) (fun h=>absurd h (by simp; omega))
  refine Yes.bind (Yes.idx rfl hil (Yes.bind (Yes.of hsh (Yes.bind (Yes.idx rfl hil ?_)))))
  rw [ha,or64F (Xw hH ha2) (Xw hH h2),Int.toNat_natCast]
  refine Yes.cond (fun hu=>?_) (fun hu=>Yes.some (hkF _ ?_))
  ·refine Yes.bind (Yes.idx rfl (by rw [List.length_set]; exact hil) (Yes.bind (Yes.of hsh (Yes.bind (Yes.idx rfl (by rw [List.length_set]; exact hil) (Yes.some (hkF _ ?_)))))))
   simp only [List.getElem_set_self,List.set_set]
   rw [Ai (Xw hH hor) (Xw hH h2)]
   have hu:d.Up=false:=by simpa using hu
   refine hI.set (Nat.xor_lt_two_pow hor h2) (fun k hkF=>?_) (fun q k hq _=>?_)
   ·rw [Nat.testBit_xor, Nat.testBit_or, ha3 k hkF, Nat.testBit_two_pow]
    by_cases e:k=h
    ·subst e; simp [Sy,hu]
    ·simp [Sy,e,Ne.symm e]
   ·have : (q < i + 1) = (q < i) := by simp; omega
    simp only [this]
  ·have hu : d.Up = true := by simpa using hu
   refine hI.set hor (fun k hkF=>?_) (fun q k hq _=>?_)
   ·rw [Nat.testBit_or, ha3 k hkF, Nat.testBit_two_pow]
    by_cases e:k=h
    ·subst e; simp [Sy,hu]
    ·simp [Sy,e,Ne.symm e]
   ·have : (q < i + 1) = (q < i) := by simp; omega
    simp only [this]
 ·refine Yes.cond (fun h => absurd h (by simp)) (fun _ => Yes.some ?_)
  refine ⟨hI.1,fun q hq=>?_⟩
  obtain ⟨b,hb,hb2,hb3⟩:=hI.2 q hq
  refine ⟨b,hb,hb2,fun k hkF=>?_⟩
  rw [hb3 k hkF]
  exact if_pos (by rw [← hI.1]; exact hq)
def Sz (H p:Nat) (t:Nat→Nat→Bool):Nat→Nat→Bool:=fun q k=>if q=p then t p (H - 1 - k) else t q k
theorem s99F {H n : Nat} (hH : H ≤ 24) {rows : List Int} {t : Nat → Nat → Bool} (ht : TbF H n rows t) (l : FaultLoom) (hl : l.Design.Hooks = H) {d : Zv} {p : Nat} (hp : d.Pick = p) (hpn : p < n) :
  Yes (f94 ⟨l⟩ d rows) fun r=>TbF H n r (Sz H p t):=by
 have hpl:p < rows.length:=by rw [ht.1]; exact hpn
 obtain ⟨b,hb,hb2,hb3⟩:=ht.2 p hpl
 unfold f94
 simp only
 rw [hl]
 refine Yes.bind (Yes.upto H (by omega) (fun i r=>∃ a:Nat,r=(a:Int)∧a < 2 ^ i∧∀ j,j < i→a.testBit j=t p (i - 1 - j)) ⟨0,rfl,by simp,fun _ h=>absurd h (Nat.not_lt_zero _)⟩ (fun i r k hi hI hkF=>?_) (fun r k hI=>?_))
 ·obtain ⟨a, rfl, ha, ha2⟩ := hI
  have ha24:a < 2 ^ 24:=Cy (by omega) ha
  have ha60:a < 2 ^ 60:=Nat.lt_trans ha24 (by decide)
  refine Yes.cond (fun _=>Yes.bind (Yes.bind (Yes.of (Ip ha60) (Yes.bind (Yes.idx hp hpl (Yes.bind (Yes.of (by rw [hb]; exact Lg (by omega)) (Yes.some (hkF _ ?_))))))))) (fun h=>absurd h (by simp; omega))
  have hs:b >>> i < 2 ^ 62:=Nat.lt_of_le_of_lt (Nat.shiftRight_le b i) (Xw hH hb2)
  rw [show (1:Int)=((1:Nat):Int) from rfl,Ok hs (by decide)]
  have h1:(b >>> i) &&& 1 < 2 ^ 1:=Nat.and_lt_two_pow _ (by decide)
  have h2a:2 * a < 2 ^ (i + 1):=by rw [Nat.pow_succ]; omega
  have hb1:(b >>> i) &&& 1 < 2 ^ (i + 1):=Nat.lt_of_lt_of_le h1 (Nat.pow_le_pow_right (by decide) (by omega))
  rw [or64F (Xw (H:=i + 1) (by omega) h2a) (Xw (H:=i + 1) (by omega) hb1)]
  refine ⟨_,rfl,Nat.or_lt_two_pow h2a hb1,fun j hj=>?_⟩
  have e2:2 * a=a <<< 1:=by rw [Nat.shiftLeft_eq]; omega
  rw [Nat.testBit_or,e2,Nat.testBit_shiftLeft,Nat.testBit_and,Nat.testBit_shiftRight]
  cases j with
  | zero=>simp [hb3 i hi]
  | succ j=>
   have:(1:Nat).testBit (j + 1)=false:=by
    rw [show (1:Nat)=2 ^ 0 from rfl,Nat.testBit_two_pow]; simp
   rw [this]
   simp only [Nat.add_sub_cancel,Bool.and_false,Bool.or_false]
   rw [ha2 j (by omega)]
   simp
   congr 1; omega
 ·obtain ⟨a, rfl, ha, ha2⟩ := hI
  refine Yes.cond (fun h=>absurd h (by simp)) (fun _=>Yes.some (Yes.bind (Yes.idx hp hpl (Yes.some ?_))))
  rw [hp,Int.toNat_natCast]
  exact ht.set ha (fun k hkF=>by rw [ha2 k hkF]; simp [Sz]) (fun q k hq _=>by simp [Sz,hq])
def Yj (b:Bool):UInt8:=if b then 120 else 46
def Wi (m:Nat) (c:Nat→Bool):Str:=⟨(List.range m).map fun w=>Yj (c w)⟩
def Q5 (n m:Nat) (c:Nat→Nat→Bool):List Str:=(List.range n).map fun p=>Wi m (c p)
def hkF (l:FaultLoom) (w:Nat):Nat:=((l.Harness.Warps[w]?).getD 0).toNat
theorem Fi {l:FaultLoom} (g:H2 l) {w:Nat} (hw:w < l.Harness.Warps.length):l.Harness.Warps[w]=(hkF l w:Int)∧hkF l w < l.Design.Hooks.toNat:=by
 have:=g.warp _ (List.getElem_mem hw)
 unfold hkF
 rw [List.getElem?_eq_getElem hw]
 simp only [Option.getD_some]
 omega
theorem Nn (a:Nat):(((a &&& 1:Nat):Int) == (1:Int))=a.testBit 0:=by
 rw [Bool.eq_iff_iff,Nat.and_one_is_mod]
 simp [Nat.testBit_zero]
 omega
theorem s111F {l:FaultLoom} (g:H2 l) {a w:Nat} (ha:a < 2 ^ 24) (hw:w < l.Harness.Warps.length):f127 ⟨l.Harness⟩ (a:Int) (w:Int)=some (a.testBit (hkF l w)):=by
 obtain ⟨e,hlt⟩:=Fi g hw
 have h24:=g.h24
 refine Yes.eq ?_
 unfold f127
 refine Yes.bind (Yes.idx rfl hw (Yes.bind (Yes.of (by rw [e]; exact Lg (by omega)) (Yes.some ?_))))
 have hs:a >>> hkF l w < 2 ^ 62:=Nat.lt_of_le_of_lt (Nat.shiftRight_le a _) (Nat.lt_trans ha Ol)
 rw [show (1:Int)=((1:Nat):Int) from rfl,Ok hs (by decide)]
 show (((a >>> hkF l w &&& 1:Nat):Int) == (1:Int))=_
 rw [Nn,Nat.testBit_shiftRight,Nat.add_zero]
theorem s110F (b:Bool):f126 b=some (Yj b):=by cases b <;> rfl
theorem s102F {l:FaultLoom} (g:H2 l) {a:Nat} (ha:a < 2 ^ 24):f85 ⟨l.Harness⟩ (a:Int)=some (Wi l.Harness.Warps.length fun w=>a.testBit (hkF l w)):=by
 have hw1:=g.w1
 have hw0:=g.w0
 refine Yes.eq ?_
 unfold f85
 simp only
 refine Yes.bind (Yes.upto l.Harness.Warps.length (by omega) (fun i r=>r=(List.range i).map fun w=>Yj (a.testBit (hkF l w))) rfl (fun i r k hi hI hk'=>?_) (fun r k hI=>?_))
 ·subst hI
  refine Yes.cond (fun _=>Yes.bind (Yes.bind (Yes.of (s111F g ha hi) (Yes.bind (Yes.of (s110F _) (Yes.bind (Yes.apnd (by simp; omega) (by simp; omega) (Yes.some (hk' _ ?_))))))))) (fun h=>absurd h (by simp; omega))
  rw [List.range_succ,List.map_append]; rfl
 ·subst hI
  refine Yes.cond (fun h=>absurd h (by simp)) (fun _=>Yes.some (Yes.bind (Yes.of (a:=Wi l.Harness.Warps.length fun w=>a.testBit (hkF l w)) ?_ (Yes.some rfl))))
  unfold Sm
  rw [if_neg (by intro h; have:=congrArg List.length h; rw [List.length_map,List.length_range,List.length_nil] at this; omega)]
  rfl
def Rv (l:FaultLoom):Nat→Nat→Bool:=fun p h=>(((l.Design.Rows[p]?).getD 0).toNat).testBit h
theorem R4 {l:FaultLoom} (g:H2 l):TbF l.Design.Hooks.toNat l.Design.Rows.length l.Design.Rows (Rv l):=by
 refine ⟨rfl,fun p hp=>?_⟩
 have h1:=g.row _ (List.getElem_mem hp)
 refine ⟨(l.Design.Rows[p]).toNat,by omega,?_,fun h hh=>?_⟩
 ·have : ((2 ^ l.Design.Hooks.toNat : Nat) : Int) = (2 : Int) ^ l.Design.Hooks.toNat := by simp
  rw [← this] at h1
  omega
 ·unfold Rv; rw [List.getElem?_eq_getElem hp]; rfl
theorem Rl {l:FaultLoom} (g:H2 l):Yw l.Harness=0:=by
 have h1:Wc 1 24 l.Harness.Hooks=true:=by rw [g.hh]; have:=g.h1; have:=g.h24; simp [Wc]; omega
 have h2:l.Harness.Warps.all (Wc 0 (l.Harness.Hooks - 1))=true:=List.all_eq_true.2 fun x hx=>by have:=g.warp x hx; rw [g.hh]; simp [Wc]; omega
 have:=g.w0; have:=g.w1
 unfold Yw
 rw [if_pos h1,if_neg (by omega),if_neg (by omega),if_pos h2]
theorem Ph {l:FaultLoom} (g:H2 l) {rows:List Int} {t:Nat→Nat→Bool} (ht:TbF l.Design.Hooks.toNat l.Design.Rows.length rows t):Y0 ⟨l.Design.Hooks,rows⟩=0:=by
 have h1:Wc 1 24 l.Design.Hooks=true:=by have:=g.h1; have:=g.h24; simp [Wc]; omega
 have h2:rows.all (Wc 0 (2 ^ l.Design.Hooks.toNat - 1))=true:=List.all_eq_true.2 fun x hx=>by
  obtain ⟨p,hp,rfl⟩:=List.getElem_of_mem hx
  obtain ⟨a,ha,ha2,_⟩:=ht.2 p hp
  have:((2 ^ l.Design.Hooks.toNat:Nat):Int)=(2:Int) ^ l.Design.Hooks.toNat:=by simp
  rw [ha,← this]
  simp only [Wc,decide_eq_true_eq]
  omega
 have:=g.r0; have:=g.r1; have:=ht.1
 unfold Y0
 simp only
 rw [if_pos h1,if_neg (by omega),if_neg (by omega),if_pos h2]
theorem s82F {l : FaultLoom} (g : H2 l) {rows : List Int} {t : Nat → Nat → Bool} (ht : TbF l.Design.Hooks.toNat l.Design.Rows.length rows t) :
  f49 l.Harness ⟨l.Design.Hooks,rows⟩=some (Q5 l.Design.Rows.length l.Harness.Warps.length (fun p w=>t p (hkF l w)),0):=by
 have hr1:=g.r1
 have hw1:=g.w1
 have h24:=g.h24
 refine Yes.eq ?_
 unfold f49
 refine Yes.jn (Yes.bind (Yes.of (s73F _) ?_))
 rw [Rl g]
 refine Yes.cond (fun h=>nomatch h) (fun _=>Yes.jn (Yes.bind (Yes.of (s74F _) ?_)))
 rw [Ph g ht]
 refine Yes.cond (fun h=>nomatch h) (fun _=>Yes.cond (fun h=>absurd h (by simp [g.hh])) (fun _=>Yes.bind ?_))
 simp only
 rw [ht.1]
 refine Yes.upto l.Design.Rows.length (by omega) (fun i r=>r=Q5 i l.Harness.Warps.length fun p w=>t p (hkF l w)) rfl (fun i r k hi hI hk'=>?_) (fun r k hI=>?_)
 ·subst hI
  obtain ⟨a,ha,ha2,ha3⟩:=ht.2 i (by rw [ht.1]; exact hi)
  have h102:=s102F g (Cy (by omega) ha2)
  rw [← ha] at h102
  refine Yes.cond (fun _=>Yes.bind (Yes.bind (Yes.idx rfl (by rw [ht.1]; exact hi) (Yes.bind (Yes.of h102 (Yes.bind (Yes.apnd (by simp [Q5]; omega) (by simp [Q5]; omega) (Yes.some (hk' _ ?_))))))))) (fun h=>absurd h (by simp; omega))
  unfold Q5
  rw [List.range_succ,List.map_append]
  congr 1
  simp only [List.map_cons,List.map_nil,Wi]
  congr 2
  refine List.map_congr_left fun w hw=>?_
  rw [ha3 _ (Fi g (List.mem_range.1 hw)).2]
 ·subst hI
  exact Yes.cond (fun h=>absurd h (by simp)) (fun _=>Yes.some (Yes.some rfl))
def BrF (m:Nat) (br:List (Int × Bool)) (B:Nat→Bool):Prop:=(∀ q ∈ br,∃ w:Nat,q.1=(w:Int)∧w < m∧B w=true)∧∀ w,B w=true→∃ q ∈ br,q.1=(w:Int)
theorem Mw {br:List (Int × Bool)} {k:Int} {v:Bool} {q:Int × Bool} (h:q ∈ H5 br k v):q=(k,v) ∨ q ∈ br:=by
 induction br with
 | nil=>simp [H5] at h; exact .inl h
 | cons p m ih=>
  unfold H5 at h
  split at h
  ·rcases List.mem_cons.1 h with rfl | h
   ·exact .inl rfl
   ·exact .inr (List.mem_cons_of_mem _ h)
  ·rcases List.mem_cons.1 h with rfl | h
   ·exact .inr List.mem_cons_self
   ·rcases ih h with h | h
    ·exact .inl h
    ·exact .inr (List.mem_cons_of_mem _ h)
theorem Nj {br:List (Int × Bool)} {k:Int} {v:Bool}:∃ q ∈ H5 br k v,q.1=k:=by
 induction br with
 | nil=>exact ⟨(k,v),by simp [H5],rfl⟩
 | cons p m ih=>
  unfold H5
  split
  ·exact ⟨(k,v),List.mem_cons_self,rfl⟩
  ·obtain ⟨q,hq,e⟩:=ih; exact ⟨q,List.mem_cons_of_mem _ hq,e⟩
theorem Ng {br:List (Int × Bool)} {k:Int} {v:Bool} {q:Int × Bool} (h:q ∈ br):∃ q' ∈ H5 br k v,q'.1=q.1:=by
 induction br with
 | nil=>cases h
 | cons p m ih=>
  unfold H5
  split
  ·rename_i hp
   rcases List.mem_cons.1 h with rfl | h
   ·exact ⟨_,List.mem_cons_self,hp.symm⟩
   ·exact ⟨q,List.mem_cons_of_mem _ h,rfl⟩
  ·rcases List.mem_cons.1 h with rfl | h
   ·exact ⟨_,List.mem_cons_self,rfl⟩
   ·obtain ⟨q',hq',e⟩:=ih h; exact ⟨q',List.mem_cons_of_mem _ hq',e⟩
theorem My (br:List (Int × Bool)) (k:Int) (v:Bool):(H5 br k v).length ≤ br.length + 1:=by
 induction br with
 | nil=>simp [H5]
 | cons p m ih=>unfold H5; split <;> simp <;> omega
def Dn (l:FaultLoom) (d:Zv) (t:Nat→Nat→Bool):Nat→Nat→Bool:=
 if d.Kind=1 then Bn d.Pick.toNat d.Hook.toNat t else if d.Kind=2 then Sy d.Hook.toNat d.Up t else if d.Kind=3 then Sz l.Design.Hooks.toNat d.Pick.toNat t
 else if d.Kind=4 then Ap d.Pick.toNat ((d.Pick.toNat + 1) % l.Design.Rows.length) t else t
def S0 (d:Zv) (B:Nat→Bool):Nat→Bool:=if d.Kind=5 then fun w=>decide (w=d.Warp.toNat) || B w else B
theorem E0 {l : FaultLoom} {d : Zv} (h : U6 l d = true) :
  (d.Kind=1∧(0 ≤ d.Pick∧d.Pick < l.Design.Rows.length)∧0 ≤ d.Hook∧d.Hook < l.Design.Hooks) ∨ (d.Kind=2∧0 ≤ d.Hook∧d.Hook < l.Design.Hooks) ∨
  ((d.Kind=3 ∨ d.Kind=4)∧0 ≤ d.Pick∧d.Pick < l.Design.Rows.length) ∨ (d.Kind=5∧0 ≤ d.Warp∧d.Warp < l.Harness.Warps.length):=by
 unfold U6 Wc at h
 split at h
 ·rename_i k; simp at h; exact .inl ⟨k,by omega,by omega⟩
 split at h
 ·rename_i k; simp at h; exact .inr (.inl ⟨k,by omega⟩)
 split at h
 ·rename_i k; simp at h; exact .inr (.inr (.inl ⟨k,by omega⟩))
 split at h
 ·rename_i k; simp at h; exact .inr (.inr (.inr ⟨k,by omega⟩))
 ·cases h
theorem sfchgF {l : FaultLoom} (g : H2 l) {d : Zv} (hd : U6 l d = true) {rows : List Int} {br : List (Int × Bool)} {t : Nat → Nat → Bool} {B : Nat → Bool}
  (ht:TbF l.Design.Hooks.toNat l.Design.Rows.length rows t) (hb:BrF l.Harness.Warps.length br B) :
  Yes (O3 d.Kind ⟨l⟩ d rows br) fun r=>TbF l.Design.Hooks.toNat l.Design.Rows.length r.1 (Dn l d t)∧BrF l.Harness.Warps.length r.2 (S0 d B)∧r.2.length ≤ br.length + 1:=by
 have h1:=g.h1
 have h24:=g.h24
 have r1:=g.r1
 have mp:∀ {x:Option (List Int)} {Q:List Int→Prop},Yes x Q→Yes (x.map fun r=>(r,br)) fun r=>Q r.1∧r.2=br:=fun ⟨a,ha,hq⟩=>⟨(a,br),by rw [ha]; rfl,hq,rfl⟩
 unfold O3 Dn S0
 rcases E0 hd with ⟨k,hp,hh⟩ | ⟨k,hh⟩ | ⟨k | k,hp⟩ | ⟨k,hw⟩
 ·simp only [k]
  exact (mp (s97F (by omega) ht ⟨l⟩ (p:=d.Pick.toNat) (h:=d.Hook.toNat) (by omega) (by omega) (by omega) (by omega))).mono fun r hr=>⟨hr.1,by rw [hr.2]; exact hb,by rw [hr.2]; omega⟩
 ·simp only [k]
  exact (mp (s98F (by omega) ht (by omega) ⟨l⟩ (h:=d.Hook.toNat) (by omega) (by omega))).mono fun r hr=>⟨hr.1,by rw [hr.2]; exact hb,by rw [hr.2]; omega⟩
 ·simp only [k]
  exact (mp (s99F (by omega) ht l (by omega) (p:=d.Pick.toNat) (by omega) (by omega))).mono fun r hr=>⟨hr.1,by rw [hr.2]; exact hb,by rw [hr.2]; omega⟩
 ·simp only [k]
  exact (mp (s100F ht (by omega) ⟨l⟩ (p:=d.Pick.toNat) (by omega) (by omega))).mono fun r hr=>⟨hr.1,by rw [hr.2]; exact hb,by rw [hr.2]; omega⟩
 ·simp only [k]
  refine ⟨(rows,H5 br d.Warp true),rfl,ht,⟨fun q hq=>?_,fun w hw'=>?_⟩,My _ _ _⟩
  ·rcases Mw hq with rfl | hq
   ·exact ⟨d.Warp.toNat,by simp only; omega,by omega,by simp⟩
   ·obtain ⟨w, e, hlt, hB⟩ := hb.1 q hq
    exact ⟨w,e,hlt,by simp [hB]⟩
  ·simp only [if_true, Bool.or_eq_true, decide_eq_true_eq] at hw'
   rcases hw' with rfl | hw'
   ·obtain ⟨q, hq, e⟩ := Nj (br := br) (k := d.Warp) (v := true)
    exact ⟨q,hq,by rw [e]; omega⟩
   ·obtain ⟨q, hq, e⟩ := hb.2 w hw'
    obtain ⟨q',hq',e'⟩:=Ng (k:=d.Warp) (v:=true) hq
    exact ⟨q',hq',e'.trans e⟩
theorem Bq {α : Type} : ∀ {xs : List α} {p : α × List α}, p ∈ Hs xs → p.2.length < xs.length ∧ p.1 ∈ xs ∧ (∀ q ∈ p.2, q ∈ xs) ∧ ∀ q ∈ xs, q = p.1 ∨ q ∈ p.2
 | [],p,h=>by simp [Hs] at h
 | x :: xs,p,h=>by
  rcases List.mem_cons.1 h with rfl | h
  ·exact ⟨by simp,List.mem_cons_self,fun q hq=>List.mem_cons_of_mem _ hq,fun q hq=>List.mem_cons.1 hq⟩
  ·obtain ⟨p', hp', rfl⟩ := List.mem_map.1 h
   obtain ⟨h1,h2,h3,h4⟩:=Bq hp'
   refine ⟨by simpa using h1,List.mem_cons_of_mem _ h2,fun q hq=>?_,fun q hq=>?_⟩
   ·rcases List.mem_cons.1 hq with rfl | hq
    ·exact List.mem_cons_self
    ·exact List.mem_cons_of_mem _ (h3 q hq)
   ·rcases List.mem_cons.1 hq with rfl | hq
    ·exact .inr List.mem_cons_self
    ·rcases h4 q hq with h | h
     ·exact .inl h
     ·exact .inr (List.mem_cons_of_mem _ h)
theorem C7 {α ρ:Type} [DecidableEq ρ] {rem:List α} {k:α→List α→Option ρ} {R:ρ} (hne:rem ≠ []) (h:∀ p ∈ Hs rem,Yes (k p.1 p.2) (fun r=>r=R)):Yes (Go.Proofs.YtepehlhgkipcoaaGreatDoor.pickAll rem k) (fun r=>r=R):=by
 cases rem with
 | nil=>exact absurd rfl hne
 | cons x xs=>
  unfold Go.Proofs.YtepehlhgkipcoaaGreatDoor.pickAll
  have hx:=(h (x,xs) (by simp [Hs])).eq
  have hall:∀ y ∈ ((Hs xs).map fun p=>(p.1,x :: p.2)).map (fun p=>k p.1 p.2),y=some R:=fun y hy=>by
   obtain ⟨p,hp,rfl⟩:=List.mem_map.1 hy
   exact (h p (by unfold Hs; exact List.mem_cons_of_mem _ hp)).eq
  simp only [Hs,List.map_cons]
  simp only at hx
  rw [hx,if_pos (List.all_eq_true.2 fun y hy=>by simpa using hall y hy)]
  exact ⟨R,rfl,rfl⟩
theorem dotsF {m : Nat} {br : List (Int × Bool)} {B : Nat → Bool} (hb : BrF m br B) (c : Nat → Bool) (hlen : br.length < 1000000) :
  lp (σ := (List UInt8) × (List (Int × Bool))) (fun k156 (m12, m64) => bif m64.isEmpty then some m12 else Go.Proofs.YtepehlhgkipcoaaGreatDoor.pickAll m64 fun q rm => (idx m12 q.1).bind fun _ => k156 ((List.set m12 (Int.toNat q.1) ((46 : UInt8))), rm))
   big ((Wi m c).b,br)=some (Wi m fun w=>c w && !B w).b:=by
 refine Yes.eq ?_
 refine Yes.lp (fun s => s.1.length = m ∧ (∀ q ∈ s.2, ∃ w : Nat, q.1 = (w : Int) ∧ w < m ∧ B w = true) ∧ ∀ w (hw : w < s.1.length), (B w = false → s.1[w] = Yj (c w)) ∧ (B w = true → s.1[w] = 46 ∨ ∃ q ∈ s.2, q.1 = (w : Int)))
  (fun s=>s.2.length) ⟨by simp [Wi],hb.1,fun w hw=>⟨fun _=>by simp [Wi],fun h=>.inr (hb.2 w h)⟩⟩ (by simp only; omega) ?_
 rintro ⟨bs,rem⟩ k ⟨hl,hr,hw⟩ hkF
 simp only at hl hr hw hkF ⊢
 refine Yes.cond (fun he=>Yes.some ?_) (fun he=>C7 (by intro h; subst h; simp at he) fun p hp=>?_)
 ·have : rem = [] := by simpa using he
  subst this
  refine List.ext_getElem (by simp [Wi,hl]) fun w h1 h2=>?_
  have:=hw w h1
  simp only [Wi,List.getElem_map,List.getElem_range]
  cases hB:B w with
  | false=>rw [this.1 hB]; simp
  | true=>
   rcases this.2 hB with h | ⟨q,hq,_⟩
   ·rw [h]; simp [Yj]
   ·cases hq
 ·obtain ⟨h1, h2, h3, h4⟩ := Bq hp
  obtain ⟨w,e,hlt,hB⟩:=hr _ h2
  obtain ⟨⟨k1,k2⟩,l2⟩:=p
  simp only at h1 h2 h3 h4 e ⊢
  subst e
  refine Yes.bind (Yes.idx rfl (by rw [hl]; exact hlt) (hkF _ ⟨by rw [List.length_set]; exact hl,fun q hq=>hr q (h3 q hq),fun v hv=>?_⟩ h1))
  rw [List.length_set] at hv
  simp only [Int.toNat_natCast]
  by_cases hvw:v=w
  ·subst hvw
   exact ⟨fun h=>absurd h (by rw [hB]; decide),fun _=>.inl (by simp)⟩
  ·rw [List.getElem_set_ne (fun h => hvw h.symm)]
   refine ⟨(hw v hv).1,fun hB'=>?_⟩
   rcases (hw v hv).2 hB' with h | ⟨q,hq,e'⟩
   ·exact .inl h
   ·rcases h4 q hq with rfl | hq
    ·exact absurd (by simp only at e'; omega) hvw
    ·exact .inr ⟨q,hq,e'⟩
def Hy (l:FaultLoom) (ds:List Zv):(Nat→Nat→Bool) × (Nat→Bool):=ds.foldl (fun s d=>(Dn l d s.1,S0 d s.2)) (Rv l,fun _=>false)
def rndF (l:FaultLoom) (ds:List Zv):List Str:=Q5 l.Design.Rows.length l.Harness.Warps.length fun p w=>(Hy l ds).1 p (hkF l w) && !(Hy l ds).2 w
theorem L3 {l:FaultLoom} {ds:List Zv} {i:Nat} (hi:i < ds.length):Hy l (ds.take (i + 1))=(Dn l ds[i] (Hy l (ds.take i)).1,S0 ds[i] (Hy l (ds.take i)).2):=by
 unfold Hy
 rw [List.take_succ_eq_append_getElem hi,List.foldl_append]
 rfl
theorem s55F {l:FaultLoom} (g:H2 l) {ds ds':List Zv} (hs:f54 ds (fun a0 a1=>f55 a0 a1)=some ds') (hl:ds.length ≤ 100000) (hl':ds'.length ≤ 100000) (hall:∀ d ∈ ds',U6 l d=true):f23 ⟨l⟩ ds=some (rndF l ds'):=by
 have hr1:=g.r1
 have hw1:=g.w1
 refine Yes.eq ?_
 unfold f23 f52 f53
 refine Yes.bind (Yes.apnd (by simp; omega) (by simp; omega) (Yes.bind (Yes.apnd (by simp; omega) (by simp; omega) ?_)))
 rw [List.nil_append,List.nil_append]
 refine Yes.bind (Yes.of hs (Yes.bind ?_))
 refine Yes.upto2 ds'.length (by omega) (fun i rows br => TbF l.Design.Hooks.toNat l.Design.Rows.length rows (Hy l (ds'.take i)).1 ∧ BrF l.Harness.Warps.length br (Hy l (ds'.take i)).2 ∧ br.length ≤ i)
  ⟨R4 g,⟨fun q hq=>by (cases hq),fun w hw=>by (cases hw)⟩,Nat.le_refl _⟩ (fun i rows br k hi hI hk'=>?_) (fun rows br k hI=>?_)
 ·obtain ⟨ht, hb, hlen⟩ := hI
  refine Yes.cond (fun _=>Yes.bind (Yes.bind (Yes.idx rfl hi (Yes.bind ((sfchgF g (hall _ (List.getElem_mem hi)) ht hb).mono fun r hr=>Yes.some (hk' _ _ ?_)))))) (fun h=>absurd h (by simp; omega))
  rw [L3 hi]
  exact ⟨hr.1,hr.2.1,by have:=hr.2.2; omega⟩
 ·obtain ⟨ht, hb, hlen⟩ := hI
  rw [List.take_length] at ht hb
  refine Yes.cond (fun h=>absurd h (by simp)) (fun _=>Yes.some (Yes.bind (Yes.of (s82F g ht) (Yes.bind ?_))))
  simp only
  rw [show (Q5 l.Design.Rows.length l.Harness.Warps.length fun p w=>(Hy l ds').1 p (hkF l w)).length=l.Design.Rows.length by simp [Q5]]
  refine Yes.upto l.Design.Rows.length (by omega) (fun i r=>r=(List.range l.Design.Rows.length).map fun p=>Wi l.Harness.Warps.length fun w=>(Hy l ds').1 p (hkF l w) && !(decide (p < i) && (Hy l ds').2 w)) ?_ (fun i r k hi hI hk'=>?_) (fun r k hI=>?_)
  ·simp [Q5]
  ·subst hI
   refine Yes.cond (fun _=>Yes.bind (Yes.bind (Yes.idx rfl (by simpa using hi) (Yes.bind ?_)))) (fun h=>absurd h (by simp; omega))
   simp only [List.getElem_map,List.getElem_range]
   refine Yes.of (dotsF hb _ (by omega)) (Yes.bind (Yes.idx rfl (by simpa using hi) (Yes.some (hk' _ ?_))))
   rw [Int.toNat_natCast]
   refine List.ext_getElem (by simp) fun p h1 h2=>?_
   simp only [List.length_set,List.length_map,List.length_range] at h1
   rw [List.getElem_set]
   simp only [List.getElem_map,List.getElem_range]
   by_cases hpi:i=p
   ·subst hpi
    rw [if_pos rfl]
    show Wi _ _=Wi _ _
    congr 1; funext w; simp
   ·rw [if_neg hpi]
    congr 1; funext w
    have:(decide (p < i + 1))=decide (p < i):=by
     rw [Bool.eq_iff_iff]; simp; omega
    rw [this]
  ·subst hI
   refine Yes.cond (fun h=>absurd h (by simp)) (fun _=>Yes.some (Yes.some ?_))
   unfold rndF Q5
   refine List.map_congr_left fun p hp=>?_
   have hp:=List.mem_range.1 hp
   congr 1; funext w; simp [hp]
theorem Fp {σ ρ:Type} (body:(σ→Option ρ)→σ→Option ρ) (s:σ):lp body big s=body (lp body 18446744073709551615) s:=by
 rw [show big=18446744073709551615 + 1 by unfold big; rfl]; rfl
theorem Ci (xs:List Zv) (n:Int) (hn:n ≤ 1) (φ:Zv→Zv→Option Int):f129 xs 0 n φ=some xs:=by
 unfold f129
 rw [Fp,Qj (n:=0 + 1) (by decide) (by decide)]
 have:decide ((0:Int) + 1 < n)=false:=by simp; omega
 simp only [jn,this,cond_false]
theorem F0 (xs:List Zv) (n:Int) (hn:n < 20) (φ:Zv→Zv→Option Int) (ys:List Zv) (h:f129 xs 0 n φ=some ys):f91 xs n φ=some ys:=by
 unfold f91
 rw [Fp]
 have h1:decide ((20:Int) ≤ n)=false:=by simp; omega
 simp only [jn,h1,cond_false,Option.bind_some,h]
 rw [Fp]
 have h2:decide ((20:Int) < n)=false:=by simp; omega
 simp only [h2,cond_false]
theorem Iw:f54 [] (fun a0 a1=>f55 a0 a1)=some []:=by
 unfold f54; rw [F0 [] _ (by simp) _ [] (Ci _ _ (by simp) _)]; rfl
theorem Pi (d:Zv):f54 [d] (fun a0 a1=>f55 a0 a1)=some [d]:=by
 unfold f54; rw [F0 [d] _ (by simp) _ [d] (Ci _ _ (by simp) _)]; rfl
def Wm (d : Nat → Bool) (i m : Nat) : Nat → List (Int × Int)
 | 0=>[]
 | k + 1=>(if d (m - (k + 1)) then [((i:Int),((m - (k + 1):Nat):Int))] else []) ++ Wm d i m k
def K9 (d : Nat → Nat → Bool) (n m : Nat) : Nat → List (Int × Int)
 | 0=>[]
 | k + 1=>Wm (d (n - (k + 1))) (n - (k + 1)) m m ++ K9 d n m k
def plF (n m:Nat) (d:Nat→Nat→Bool):List (Int × Int):=K9 d n m n
theorem Xd {d:Nat→Bool} {i m j:Nat} (hj:j < m):Wm d i m (m - j)=(if d j then [((i:Int),(j:Int))] else []) ++ Wm d i m (m - (j + 1)):=by
 obtain ⟨k,hkF⟩:∃ k,m - j=k + 1:=⟨m - j - 1,by omega⟩
 rw [hkF,Wm,show m - (k + 1)=j by omega,show m - (j + 1)=k by omega]
theorem Dz {d:Nat→Nat→Bool} {n m i:Nat} (hi:i < n):K9 d n m (n - i)=Wm (d i) i m m ++ K9 d n m (n - (i + 1)):=by
 obtain ⟨k,hkF⟩:∃ k,n - i=k + 1:=⟨n - i - 1,by omega⟩
 rw [hkF,K9,show n - (k + 1)=i by omega,show n - (i + 1)=k by omega]
def Bm {σ α : Type} (cons : Ue σ α) : List α → σ → Option σ
 | [],s=>some s
 | x :: xs,s=>(cons s x).bind fun r=>bif r.1 then Bm cons xs r.2 else some r.2
theorem I4 (a b:Bool):(Yj a != Yj b)=(a != b):=by cases a <;> cases b <;> rfl
theorem On (b:Bool):Yj b < 128:=by cases b <;> decide
theorem Jq (m:Nat) (c:Nat→Bool):(Wi m c).b.length=m:=by simp [Wi]
theorem Vm {m:Nat} {c:Nat→Bool} {j:Nat} (h:j < (Wi m c).b.length):(Wi m c).b[j]=Yj (c j):=by simp [Wi]
theorem Kx (n m:Nat) (c:Nat→Nat→Bool):(Q5 n m c).length=n:=by simp [Q5]
theorem Ud {n m:Nat} {c:Nat→Nat→Bool} {i:Nat} (h:i < (Q5 n m c).length):(Q5 n m c)[i]=Wi m (c i):=by simp [Q5]
theorem Nd {m:Nat} {c:Nat→Bool} {j:Nat} (h:j < m):(dec (Wi m c) j).2=1:=by
 have hl:j < (Wi m c).b.length:=by rw [Jq]; exact h
 have hg:(ByteArray.mk (Array.mk (Wi m c).b)).get! (j + 0)=Yj (c j):=by
  show (Array.mk (Wi m c).b)[j]! = _
  rw [getElem!_pos _ j (by simpa using hl)]
  exact Vm hl
 unfold dec Utf8.decode
 simp only [hg]
 have hb:(Yj (c j)).toNat < 128:=On (c j)
 rw [if_pos hb]
theorem s83F {n m : Nat} (hn : n ≤ 100000) (hm : m ≤ 100000) (c c' : Nat → Nat → Bool) {σ : Type} {cons : Ue σ (Int × Int)} {s t : σ} (h : Bm cons (plF n m fun p w => c p w != c' p w) s = some t) :
    f58 (Q5 n m c) (Q5 n m c') σ cons s=some t:=by
  refine Yes.eq ?_
  unfold f58
  rw [Kx]
  refine Yes.upto n (by omega) (fun i s=>Bm cons (K9 (fun p w=>c p w != c' p w) n m (n - i)) s=some t) h (fun i s k hi hI hk'=>?_) (fun s k hI=>?_)
  · refine Yes.cond (fun _ => Yes.jn (Yes.bind (Yes.idx rfl (by rw [Kx]; exact hi) ?_))) (fun h => absurd h (by simp; omega))
    rw [Dz hi] at hI
    rw [Ud]
    refine Yes.lp (fun q=>q.2 ≤ m∧Bm cons (Wm (fun w=>c i w != c' i w) i m (m - q.2) ++ K9 (fun p w=>c p w != c' p w) n m (n - (i + 1))) q.1=some t) (fun q=>m - q.2) ⟨Nat.zero_le _,hI⟩ (by simp only; omega) ?_
    rintro ⟨s,j⟩ k2 ⟨hj,hJ⟩ hk2
    simp only at hj hJ hk2
    rw [Jq]
    refine Yes.cond (fun hlt=>Yes.bind (Yes.bind ?_)) (fun hge=>?_)
    · have hlt : j < m := by simpa using hlt
      rw [Xd hlt] at hJ
      have hw:j + (dec (Wi m (c i)) j).2=j + 1:=by rw [Nd hlt]
      refine Yes.idx rfl (by rw [Jq]; exact hlt) (Yes.bind (Yes.idx rfl (by rw [Kx]; exact hi) ?_))
      rw [Ud]
      refine Yes.bind (Yes.idx rfl (by rw [Jq]; exact hlt) ?_)
      rw [Vm,Vm,I4]
      refine Yes.cond (fun hd=>?_) (fun hd=>Yes.some (Yes.cond (fun h=>nomatch h) (fun _=>?_)))
      · rw [hd] at hJ
        simp only [if_true,List.cons_append,List.nil_append,Bm] at hJ
        obtain ⟨⟨b,s'⟩,hc,hr⟩:=Z3 hJ
        refine Yes.bind (Yes.of hc (Yes.some (Yes.cond (fun h=>?_) (fun h=>?_))))
        · have hb : b = false := by simpa using h
          subst hb
          simp only [cond_false] at hr
          exact Yes.some (Option.some.inj hr)
        · have hb : b = true := by simpa using h
          subst hb
          simp only [cond_true] at hr
          rw [hw]
          exact hk2 (s',j + 1) ⟨hlt,hr⟩ (by simp only; omega)
      · rw [hd] at hJ
        rw [hw]
        exact hk2 (s,j + 1) ⟨hlt,by simpa using hJ⟩ (by simp only; omega)
    · have : j = m := by have : ¬ j < m := by simpa using hge
                         omega
      subst this
      rw [Nat.sub_self] at hJ
      exact hk' s (by simpa [Wm] using hJ)
  · rw [Nat.sub_self] at hI
    exact Yes.cond (fun h=>absurd h (by simp)) (fun _=>Yes.some (Option.some.inj hI))
def rcF (l:FaultLoom) (ds:List Zv) (p w:Nat):Bool:=(Hy l ds).1 p (hkF l w) && !(Hy l ds).2 w
theorem Eb (l:FaultLoom) (ds:List Zv):rndF l ds=Q5 l.Design.Rows.length l.Harness.Warps.length (rcF l ds):=rfl
def M2 (c:Nat→Nat→Bool) (ps:List (Int × Int)):List Zy:=ps.map fun q=>⟨q.1,q.2,c q.1.toNat q.2.toNat⟩
theorem Ex (b:Bool):(Yj b == (120:UInt8))=b:=by cases b <;> rfl
theorem C9 (d:Nat→Bool) (i m k:Nat):(Wm d i m k).length ≤ k:=by
 induction k with
 | zero=>simp [Wm]
 | succ k ih=>unfold Wm; split <;> simp <;> omega
theorem Bt (d:Nat→Nat→Bool) (n m k:Nat):(K9 d n m k).length ≤ k * m:=by
 induction k with
 | zero=>simp [K9]
 | succ k ih=>unfold K9; have:=C9 (d (n - (k + 1))) (n - (k + 1)) m m; rw [List.length_append,Nat.add_mul]; omega
theorem Ii {a b:Nat} (hb:0 < b):Hd (a:Int) (b:Int)=some ((a % b:Nat):Int):=by
 unfold Hd
 rw [if_neg (by omega),Int.tmod_eq_emod_of_nonneg (by omega)]
 rfl
theorem Ce {α β : Type} {cons : Ue (List β) α} (f : α → List β) (B : Nat) : ∀ (xs : List α) (m : List β), (∀ x ∈ xs, (f x).length ≤ 1) → m.length + xs.length ≤ B → (∀ m x, x ∈ xs → m.length < B → cons m x = some (true, m ++ f x)) → Bm cons xs m = some (m ++ xs.flatMap f)
 | [],m,_,_,_=>by simp [Bm]
 | x :: xs,m,h1,hB,h=>by
  unfold Bm
  have hx:=h1 x List.mem_cons_self
  simp only [List.length_cons] at hB
  rw [h m x List.mem_cons_self (by omega)]
  simp only [Option.bind_some,cond_true]
  rw [Ce f B xs (m ++ f x) (fun y hy=>h1 y (List.mem_cons_of_mem _ hy)) (by rw [List.length_append]; omega) (fun m y hy hm=>h m y (List.mem_cons_of_mem _ hy) hm)]
  simp
theorem Ni {l:FaultLoom} {ds:List Zv} (h:J0 l ds=0):H2 l∧ds.length ≤ 100∧∀ d ∈ ds,U6 l d=true:=by
 unfold J0 at h
 split at h
 ·rename_i h1; exact absurd h h1
 rename_i h1
 have h1:=Decidable.not_not.1 h1
 split at h
 ·cases h
 split at h
 ·rename_i h2 h3; exact ⟨Pd h1,by omega,List.all_eq_true.1 h3⟩
 ·cases h
def Yp (l:FaultLoom) (ds:List Zv) (k:Int):Int:=if J0 l ds ≠ 0 then J0 l ds else if Wc 1 120 k then 0 else 3
theorem s54F (l:FaultLoom) (ds:List Zv) (k:Int):f22 l ds k=some (Yp l ds k):=by
 refine Yes.eq ?_
 unfold f22
 refine Yes.jn (Yes.bind (Yes.of (s18F _ _) (Yes.cond (fun h=>Yes.some ?_) (fun h=>Yes.jn (Yes.bind (Yes.of (s62F 1 120 [k] (by simp)) (Yes.cond (fun h2=>Yes.some ?_) (fun h2=>Yes.some ?_))))))))
 ·have h : J0 l ds ≠ 0 := by simpa using h
  unfold Yp; rw [if_pos h]
 all_goals
  have h:¬ J0 l ds ≠ 0:=by simpa using h
  simp only [List.all_cons,List.all_nil,Bool.and_true,← Wc.eq_1] at h2
 ·have h2 : Wc 1 120 k = false := by simpa using h2
  unfold Yp; rw [if_neg h,h2]; rfl
 ·have h2 : Wc 1 120 k = true := by simpa using h2
  unfold Yp; rw [if_neg h,h2]; rfl
def Yx (l:FaultLoom) (ds:List Zv) (k:Nat):List Str:=Q5 k l.Harness.Warps.length fun p w=>rcF l ds (p % l.Design.Rows.length) w
theorem s19F {l:FaultLoom} {ds ds':List Zv} {k:Int} (hs:f54 ds (fun a0 a1=>f55 a0 a1)=some ds') (hl':ds'.length ≤ 100000) (hall:∀ d ∈ ds',U6 l d=true) (ho:Yp l ds k=0):f9 l ds k=some (Yx l ds' k.toNat,0):=by
 have hc:J0 l ds=0:=by
  unfold Yp at ho
  split at ho
  ·rename_i h1; exact absurd ho h1
  ·rename_i h1; exact Decidable.not_not.1 h1
 have hkF:1 ≤ k∧k ≤ 120:=by
  unfold Yp at ho
  rw [if_neg (fun hh=>hh hc)] at ho
  split at ho
  ·rename_i hb; simpa [Wc] using hb
  ·cases ho
 obtain ⟨g,hlen,hd⟩:=Ni hc
 refine Yes.eq ?_
 unfold f9
 refine Yes.jn (Yes.bind (Yes.of (s54F l ds k) (Yes.cond (fun h=>absurd (by simpa using h) (by rw [ho]; simp)) (fun _=>Yes.bind (Yes.of (s55F g hs (by omega) hl' hall) (Yes.bind ?_))))))
 rw [Eb]
 have hr0:=g.r0
 have hr1:=g.r1
 obtain ⟨kn,rfl⟩:=Int.eq_ofNat_of_zero_le (show 0 ≤ k by omega)
 rw [Int.toNat_natCast,Kx]
 refine Yes.upto kn (by omega) (fun i r=>r=Yx l ds' i) rfl (fun i r k2 hi hI hk2=>?_) (fun r k2 hI=>?_)
 ·subst hI
  have hlt:i % l.Design.Rows.length < l.Design.Rows.length:=Nat.mod_lt _ hr0
  refine Yes.cond (fun _=>Yes.bind (Yes.bind (Yes.of (Ii hr0) (Yes.bind (Yes.idx rfl (by rw [Kx]; exact hlt) ?_))))) (fun h=>absurd h (by simp; omega))
  rw [Ud]
  refine Yes.bind (Yes.apnd (by unfold Yx; rw [Kx]; simp; omega) (by unfold Yx; rw [Kx]; simp; omega) (Yes.some (hk2 _ ?_)))
  unfold Yx Q5
  rw [List.range_succ,List.map_append]; rfl
 ·subst hI
  exact Yes.cond (fun h=>absurd h (by simp)) (fun _=>Yes.some (Yes.some rfl))
theorem Rj {l:FaultLoom} {ds:List Zv} {k:Int} (hc:J0 l ds=0) (h1:1 ≤ k) (h2:k ≤ 120):Yp l ds k=0:=by
 unfold Yp; rw [if_neg (fun hh=>hh hc),if_pos (by simp [Wc]; omega)]
theorem Au {l:FaultLoom} {ds:List Zv} (g:J2 l=0) (hl:ds.length ≤ 100) (hd:∀ d ∈ ds,U6 l d=true):J0 l ds=0:=by
 unfold J0; rw [if_neg (fun hh=>hh g),if_neg (by omega),if_pos (List.all_eq_true.2 hd)]
theorem L9 {l:FaultLoom} (g:H2 l):J2 l=0:=by
 unfold J2
 rw [Rl g,if_neg (fun hh=>hh rfl)]
 have:=Ph g (R4 g)
 have e:(⟨l.Design.Hooks,l.Design.Rows⟩:Design)=l.Design:=rfl
 rw [e] at this
 rw [this,if_neg (fun hh=>hh rfl),if_neg (fun hh=>hh g.hh)]
theorem Ec (l:FaultLoom) (p w:Nat):rcF l [] p w=Rv l p (hkF l w):=by simp [rcF,Hy]
theorem A7 (l:FaultLoom) (d:Zv) (p w:Nat):rcF l [d] p w=(Dn l d (Rv l) p (hkF l w) && !S0 d (fun _=>false) w):=by simp [rcF,Hy]
theorem actT_1F {l:FaultLoom} {d:Zv} (k:d.Kind=1) (t:Nat→Nat→Bool):Dn l d t=Bn d.Pick.toNat d.Hook.toNat t:=by unfold Dn; rw [k]; rfl
theorem actT_3F {l:FaultLoom} {d:Zv} (k:d.Kind=3) (t:Nat→Nat→Bool):Dn l d t=Sz l.Design.Hooks.toNat d.Pick.toNat t:=by unfold Dn; rw [k]; rfl
theorem Ld {d:Zv} (k:d.Kind ≠ 5) (B:Nat→Bool):S0 d B=B:=by unfold S0; rw [if_neg k]
theorem V7 (d : Nat → Nat → Bool) (n m : Nat) : ∀ k, k ≤ n → K9 d n m k = ((List.range n).drop (n - k)).flatMap fun i => Wm (d i) i m m
 | 0,_=>by rw [Nat.sub_zero,List.drop_eq_nil_of_le (by simp)]; rfl
 | k + 1,h=>by
  rw [K9,V7 d n m k (by omega)]
  rw [show (List.range n).drop (n - (k + 1))=(n - (k + 1)) :: (List.range n).drop (n - k) by
   rw [List.drop_eq_getElem_cons (by simp; omega)]
   simp only [List.getElem_range]
   rw [show n - (k + 1) + 1=n - k by omega]]
  simp
theorem Ms (d:Nat→Nat→Bool) (n m:Nat):plF n m d=(List.range n).flatMap fun i=>Wm (d i) i m m:=by
 unfold plF; rw [V7 d n m n (Nat.le_refl _)]; simp
theorem s20F {l : FaultLoom} {ds ds' : List Zv} {k : Nat} (hs : f54 ds (fun a0 a1 => f55 a0 a1) = some ds') (hl' : ds'.length ≤ 100000) (hall : ∀ d ∈ ds', U6 l d = true) (ho : Yp l ds k = 0) (ho0 : Yp l [] k = 0) (g : H2 l) (hkF : k ≤ 120) :
  f11 l ds k=some (M2 (fun p w=>rcF l ds' (p % l.Design.Rows.length) w) (plF k l.Harness.Warps.length fun p w=>rcF l ds' (p % l.Design.Rows.length) w != rcF l [] (p % l.Design.Rows.length) w),0):=by
 have hw1:=g.w1
 refine Yes.eq ?_
 unfold f11
 refine Yes.bind (Yes.of (s19F hs hl' hall ho) (Yes.jn (Yes.cond (fun h=>nomatch h) (fun _=>Yes.bind (Yes.of (s19F Iw (by simp) (fun x hx=>by cases hx) ho0) (Yes.bind (Yes.bind ?_)))))))
 rw [Int.toNat_natCast]
 have hpl:∀ q ∈ plF k l.Harness.Warps.length (fun p w=>rcF l ds' (p % l.Design.Rows.length) w != rcF l [] (p % l.Design.Rows.length) w),∃ p w:Nat,q=((p:Int),(w:Int))∧p < k∧w < l.Harness.Warps.length:=fun q hq=>by
  rw [Ms] at hq
  obtain ⟨p,hp,hq⟩:=List.mem_flatMap.1 hq
  have:∀ j,j ≤ l.Harness.Warps.length→q ∈ Wm (fun w=>rcF l ds' (p % l.Design.Rows.length) w != rcF l [] (p % l.Design.Rows.length) w) p l.Harness.Warps.length j→∃ w:Nat,q=((p:Int),(w:Int))∧w < l.Harness.Warps.length:=fun j=>by
   induction j with
   | zero=>intro _ h; cases h
   | succ j ih=>
    intro hj h
    unfold Wm at h
    rcases List.mem_append.1 h with h | h
    ·split at h
     ·exact ⟨_,List.mem_singleton.1 h,by omega⟩
     ·cases h
    ·exact ih (by omega) h
  obtain ⟨w,h1,h2⟩:=this _ (Nat.le_refl _) hq
  exact ⟨p,w,h1,List.mem_range.1 hp,h2⟩
 have hlen:(plF k l.Harness.Warps.length (fun p w=>rcF l ds' (p % l.Design.Rows.length) w != rcF l [] (p % l.Design.Rows.length) w)).length ≤ 12000:=by
  have:=Bt (fun p w=>rcF l ds' (p % l.Design.Rows.length) w != rcF l [] (p % l.Design.Rows.length) w) k l.Harness.Warps.length k
  have h2:k * l.Harness.Warps.length ≤ 120 * 96:=Nat.mul_le_mul hkF hw1
  unfold plF; omega
 have hf := Ce (cons := fun m6_128 (q : Int × Int) => (idx (Yx l ds' k) q.1).bind fun y132 => (idx y132.b q.2).bind fun y135 => (apnd 24 m6_128 [(⟨q.1, q.2, (y135 == (120 : UInt8))⟩ : Zy)]).bind fun y159 => some (true, y159))
  (fun q=>[(⟨q.1,q.2,rcF l ds' (q.1.toNat % l.Design.Rows.length) q.2.toNat⟩:Zy)]) 20000 (plF k l.Harness.Warps.length fun p w=>rcF l ds' (p % l.Design.Rows.length) w != rcF l [] (p % l.Design.Rows.length) w) [] (fun _ _=>by simp) (by simp only [List.length_nil]; omega) (fun m q hq hm=>by
   obtain ⟨p,w,rfl,hp,hw⟩:=hpl q hq
   refine Yes.eq ?_
   have hx:p < (Yx l ds' k).length:=by unfold Yx; rw [Kx]; exact hp
   refine Yes.bind (Yes.idx rfl hx ?_)
   rw [show (Yx l ds' k)[p]=Wi l.Harness.Warps.length (fun w=>rcF l ds' (p % l.Design.Rows.length) w) from Ud (c:=fun p w=>rcF l ds' (p % l.Design.Rows.length) w) hx]
   refine Yes.bind (Yes.idx rfl (by rw [Jq]; exact hw) ?_)
   rw [Vm,Ex]
   exact Yes.bind (Yes.apnd (by simp; omega) (by simp; omega) (Yes.some (by simp))))
 refine Yes.of (s83F (n:=k) (m:=l.Harness.Warps.length) (by omega) (by omega) (fun p w=>rcF l ds' (p % l.Design.Rows.length) w) (fun p w=>rcF l [] (p % l.Design.Rows.length) w) hf) (Yes.some (Yes.some ?_))
 congr 1
 unfold M2
 rw [List.nil_append]
 generalize (plF k l.Harness.Warps.length fun p w=>rcF l ds' (p % l.Design.Rows.length) w != rcF l [] (p % l.Design.Rows.length) w)=ps
 induction ps with
 | nil=>rfl
 | cons q qs ih=>simp; exact ih
end Go.Proofs.YtepehlhgkipcoaaGreatDoor
