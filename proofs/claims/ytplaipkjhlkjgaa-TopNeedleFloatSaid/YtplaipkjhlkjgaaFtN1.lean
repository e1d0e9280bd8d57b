/- Laws of plain functions, part 1. -/
import Derived.Test.YtplaipkjhlkjgaaLawND
set_option maxRecDepth 8000
namespace Go.Proofs.Ytplaipkjhlkjgaa
open Go.RowKit
open Classical
theorem s105F (x a b:Int):f71 x a b=some (!decide (a ≤ x∧x ≤ b)):=by unfold f71; by_cases h1:x < a <;> by_cases h2:x > b <;> simp [h1,h2] <;> omega
theorem s87F (xs:List Int) (φ:Int→Option Bool) (p:Int→Bool) (hl:xs.length < 9223372036854775807) (h:∀ a ∈ xs,φ a=some (p a)):f39 xs φ=some (xs.any p):=
 Yes.eq (Yes.bind (Yes.mono (index_is xs φ p hl h) fun _ hr=>Yes.some (Iw hr)))
theorem s53F (xs:List Zv) (φ:Zv→Option Bool) (p:Zv→Bool) (hl:xs.length < 9223372036854775807) (h:∀ a ∈ xs,φ a=some (p a)):f61 xs φ=some (xs.any p):=
 Yes.eq (Yes.bind (Yes.mono (index_is xs φ p hl h) fun _ hr=>Yes.some (Iw hr)))
theorem any_notF (xs:List Int) (p:Int→Bool):(!(xs.any fun x=>!p x))=xs.all p:=by induction xs <;> simp_all
theorem s94F (a b:Int) (xs:List Int) (hl:xs.length < 9223372036854775807):f45 a b xs=some (xs.all fun x=>decide (a ≤ x∧x ≤ b)):=by
 unfold f45; rw [s87F xs _ (fun x=>!decide (a ≤ x∧x ≤ b)) hl (fun x _=>s105F x a b)]
 show some (!(xs.any fun x=>!decide (a ≤ x∧x ≤ b)))=_
 rw [any_notF]
theorem s95F (a b:Int) (xs:List Int) (hl:xs.length < 9223372036854775807):f22 a b xs=some (xs.all fun x=>decide (a ≤ x∧x ≤ b)):=s94F a b xs hl
theorem s62F (a b:Int) (xs:List Int) (hl:xs.length < 9223372036854775807):f32 a b xs=some (xs.all fun x=>decide (a ≤ x∧x ≤ b)):=s94F a b xs hl

def Wl (a b x:Int):Bool:=decide (a ≤ x∧x ≤ b)
def Vc (h:TieHarness):Int:=if Wl 1 24 h.Hooks then if h.Warps.length > 96 then 5 else if h.Warps.length=0 then 7 else if h.Warps.all (Wl 0 (h.Hooks - 1)) then 0 else 2 else 2
def Uz (d:Design):Int:=if Wl 1 24 d.Hooks then if d.Rows.length > 60 then 5 else if d.Rows.length=0 then 7 else if d.Rows.all (Wl 0 (2 ^ d.Hooks.toNat - 1)) then 0 else 2 else 2
def Uv (l:FaultLoom):Int:=if Vc l.Harness ≠ 0 then Vc l.Harness else if Uz l.Design ≠ 0 then Uz l.Design else if l.Harness.Hooks ≠ l.Design.Hooks then 4 else 0
theorem s73F (h:TieHarness):f24 h=some (Vc h):=by
 refine Yes.eq ?_
 unfold f24
 refine Yes.jn (Yes.bind (Yes.of (s94F _ _ _ (by simp)) (Yes.cond (fun h1=>Yes.some ?_) (fun h1=>?_))))
 ·have : Wl 1 24 h.Hooks = false := by simp [Wl] at h1 ⊢; omega
  simp [Vc,this]
 have hb:Wl 1 24 h.Hooks=true:=by simpa [Wl] using h1
 have hb':1 ≤ h.Hooks∧h.Hooks ≤ 24:=by simpa [Wl] using hb
 refine Yes.cond (fun h2=>Yes.some ?_) (fun h2=>?_)
 ·have : h.Warps.length > 96 := by simp at h2; omega
  simp [Vc,hb,this]
 have h2':¬ h.Warps.length > 96:=by simp at h2; omega
 refine Yes.cond (fun h3=>Yes.some ?_) (fun h3=>?_)
 ·have : h.Warps.length = 0 := by simpa using h3
  simp [Vc,hb,this]
 have h3':¬ h.Warps.length=0:=by simpa using h3
 rw [Km (n:=h.Hooks - 1) (by omega) (by omega)]
 refine Yes.bind (Yes.of (s94F _ _ _ (by omega)) (Yes.cond (fun h4=>Yes.some ?_) (fun h4=>Yes.some ?_)))
 ·have : h.Warps.all (Wl 0 (h.Hooks - 1)) = false := by simpa [Wl] using h4
  simp [Vc,hb,h2',h3',this]
 ·have : h.Warps.all (Wl 0 (h.Hooks - 1)) = true := by simpa [Wl] using h4
  simp [Vc,hb,h2',h3',this]
theorem Rw {n:Int} (h1:1 ≤ n) (h2:n ≤ 24):(1:Int) ≤ 2 ^ n.toNat∧(2:Int) ^ n.toNat ≤ 16777216:=by
 have a:1 ≤ 2 ^ n.toNat:=Nat.one_le_two_pow
 have b:2 ^ n.toNat ≤ 2 ^ 24:=Nat.pow_le_pow_right (by omega) (by omega)
 have c:((2 ^ n.toNat:Nat):Int)=(2:Int) ^ n.toNat:=by simp
 rw [← c]; omega
theorem shl_oneF {n:Int} (h1:1 ≤ n) (h2:n ≤ 24):Hj 1 n=some (2 ^ n.toNat):=by
 unfold Hj
 have ⟨a,b⟩:=Rw h1 h2
 rw [if_neg (by omega),show min n.toNat 64=n.toNat by omega,Int.one_mul,Km (by omega) (by omega)]
theorem s74F (d:Design):f21 d=some (Uz d):=by
 refine Yes.eq ?_
 unfold f21
 refine Yes.jn (Yes.bind (Yes.of (s95F _ _ _ (by simp)) (Yes.cond (fun h1=>Yes.some ?_) (fun h1=>?_))))
 ·have : Wl 1 24 d.Hooks = false := by simp [Wl] at h1 ⊢; omega
  simp [Uz,this]
 have hb:Wl 1 24 d.Hooks=true:=by simpa [Wl] using h1
 have hb':1 ≤ d.Hooks∧d.Hooks ≤ 24:=by simpa [Wl] using hb
 refine Yes.cond (fun h2=>Yes.some ?_) (fun h2=>?_)
 ·have : d.Rows.length > 60 := by simp at h2; omega
  simp [Uz,hb,this]
 have h2':¬ d.Rows.length > 60:=by simp at h2; omega
 refine Yes.cond (fun h3=>Yes.some ?_) (fun h3=>?_)
 ·have : d.Rows.length = 0 := by simpa using h3
  simp [Uz,hb,this]
 have h3':¬ d.Rows.length=0:=by simpa using h3
 have ⟨pa,pb⟩:=Rw hb'.1 hb'.2
 refine Yes.bind (Yes.of (shl_oneF hb'.1 hb'.2) ?_)
 rw [Km (n:=2 ^ d.Hooks.toNat - 1) (by omega) (by omega)]
 refine Yes.bind (Yes.of (s95F _ _ _ (by omega)) (Yes.cond (fun h4=>Yes.some ?_) (fun h4=>Yes.some ?_)))
 ·have : d.Rows.all (Wl 0 (2 ^ d.Hooks.toNat - 1)) = false := by simpa [Wl] using h4
  simp [Uz,hb,h2',h3',this]
 ·have : d.Rows.all (Wl 0 (2 ^ d.Hooks.toNat - 1)) = true := by simpa [Wl] using h4
  simp [Uz,hb,h2',h3',this]
theorem loom_ofF (l : FaultLoom) (x : Option Int) (y : Option Int) (hx : x = some (Vc l.Harness)) (hy : y = some (Uz l.Design)) :
  (jn (σ:=Unit) (fun _=>jn (σ:=Unit) (fun _=>jn (σ:=Unit) (fun _=>some ((0:Int))) fun k33=>bif ((l.Harness).Hooks != (l.Design).Hooks) then some ((4:Int)) else k33 ()) fun k19=>
   y.bind fun y23=>bif (y23 != (0:Int)) then some (y23) else k19 ()) fun k7=>x.bind fun y11=>bif (y11 != (0:Int)) then some (y11) else k7 ())=some (Uv l):=by
 subst hx; subst hy
 unfold Uv jn
 by_cases h1:Vc l.Harness=0 <;> by_cases h2:Uz l.Design=0 <;> by_cases h3:l.Harness.Hooks=l.Design.Hooks <;> simp [h1,h2,h3,bne,BEq.beq]
theorem s50F (l:FaultLoom):f54 l=some (Uv l):=loom_ofF l _ _ (s73F _) (s74F _)
structure Xg (l : FaultLoom) : Prop where
 h1:1 ≤ l.Design.Hooks
 h24:l.Design.Hooks ≤ 24
 hh:l.Harness.Hooks=l.Design.Hooks
 w0:0 < l.Harness.Warps.length
 w1:l.Harness.Warps.length ≤ 96
 r0:0 < l.Design.Rows.length
 r1:l.Design.Rows.length ≤ 60
 warp:∀ x ∈ l.Harness.Warps,0 ≤ x∧x < l.Design.Hooks
 row:∀ x ∈ l.Design.Rows,0 ≤ x∧x < 2 ^ l.Design.Hooks.toNat
theorem Ok {l:FaultLoom} (h:Uv l=0):Xg l:=by
 unfold Uv at h
 split at h
 ·rename_i h1; exact absurd h h1
 rename_i h1
 split at h
 ·rename_i h2; exact absurd h h2
 rename_i h2
 split at h
 ·cases h
 rename_i h3
 have h1:Vc l.Harness=0:=Decidable.not_not.1 h1
 have h2:Uz l.Design=0:=Decidable.not_not.1 h2
 have h3:l.Harness.Hooks=l.Design.Hooks:=Decidable.not_not.1 h3
 unfold Vc at h1
 unfold Uz at h2
 split at h1
 case isFalse=>cases h1
 split at h1
 ·cases h1
 split at h1
 ·cases h1
 split at h1
 case isFalse=>cases h1
 split at h2
 case isFalse=>cases h2
 split at h2
 ·cases h2
 split at h2
 ·cases h2
 split at h2
 case isFalse=>cases h2
 rename_i a1 a2 a3 a4 b1 b2 b3 b4
 simp only [Wl,decide_eq_true_eq,List.all_eq_true] at a1 a4 b1 b4
 exact ⟨b1.1,b1.2,h3,by omega,by omega,by omega,by omega,fun x hx=>by have:=a4 x hx; omega,fun x hx=>by have:=b4 x hx; omega⟩
def Ce (l:FaultLoom) (d:Zv):Bool:=
 if d.Kind=1 then Wl 0 (l.Design.Rows.length - 1) d.Pick && Wl 0 (l.Design.Hooks - 1) d.Hook && decide (d.Warp=0) && !d.Up
 else if d.Kind=2 then Wl 0 (l.Design.Hooks - 1) d.Hook && decide (d.Pick=0) && decide (d.Warp=0)
 else if d.Kind=3 ∨ d.Kind=4 then Wl 0 (l.Design.Rows.length - 1) d.Pick && decide (d.Hook=0) && decide (d.Warp=0) && !d.Up
 else if d.Kind=5 then Wl 0 (l.Harness.Warps.length - 1) d.Warp && decide (d.Pick=0) && decide (d.Hook=0) && !d.Up
 else false
theorem s52F {l:FaultLoom} (g:Xg l) (d:Zv):f60 ⟨l⟩ d=some (Ce l d):=by
 unfold f60
 obtain ⟨g1,g2,_,g3,g4,g5,g6,_,_⟩:=g
 simp only
 rw [Km (n:=(l.Design.Rows.length:Int) - 1) (by omega) (by omega),Km (n:=l.Design.Hooks - 1) (by omega) (by omega),Km (n:=(l.Harness.Warps.length:Int) - 1) (by omega) (by omega)]
 simp only [s62F _ _ [d.Pick] (by simp),s62F _ _ [d.Hook] (by simp),s62F _ _ [d.Warp] (by simp),List.all_cons,List.all_nil,Bool.and_true,Option.bind_some,← Wl.eq_1]
 have b0:Wl 0 (l.Design.Hooks - 1) 0=true:=by simp [Wl]; omega
 have b1:Wl 0 ((l.Design.Rows.length:Int) - 1) 0=true:=by simp [Wl]; omega
 have b2:Wl 0 ((l.Harness.Warps.length:Int) - 1) 0=true:=by simp [Wl]; omega
 obtain ⟨k,p,h,w,u⟩:=d
 unfold Ce
 simp only
 have e:∀ a b:Int,(a == b)=decide (a=b):=fun a b=>by rw [Bool.eq_iff_iff]; simp
 simp only [e]
 by_cases k1:k=1
 ·subst k1
  by_cases q:w=0 <;> cases u <;> simp [q,b2]
  cases Wl 0 ((l.Design.Rows.length:Int) - 1) p <;> cases Wl 0 (l.Design.Hooks - 1) h <;> simp
 by_cases k2:k=2
 ·subst k2
  by_cases q:p=0 <;> by_cases r:w=0 <;> simp [q,r,b1,b2]
  cases Wl 0 (l.Design.Hooks - 1) h <;> simp
 by_cases k3:k=3
 ·subst k3
  by_cases q:h=0 <;> by_cases r:w=0 <;> cases u <;> simp [q,r,b0,b2]
  cases Wl 0 ((l.Design.Rows.length:Int) - 1) p <;> simp
 by_cases k4:k=4
 ·subst k4
  by_cases q:h=0 <;> by_cases r:w=0 <;> cases u <;> simp [q,r,b0,b2]
  cases Wl 0 ((l.Design.Rows.length:Int) - 1) p <;> simp
 by_cases k5:k=5
 ·subst k5
  by_cases q:p=0 <;> by_cases r:h=0 <;> cases u <;> simp [q,r,b0,b1]
 simp [k1,k2,k3,k4,k5]
def Vx (l:FaultLoom) (ds:List Zv):Int:=if Uv l ≠ 0 then Uv l else if ds.length > 100 then 5 else if ds.all (Ce l) then 0 else 2
theorem s18F (l:FaultLoom) (ds:List Zv):f31 l ds=some (Vx l ds):=by
 refine Yes.eq ?_
 unfold f31
 refine Yes.jn (Yes.bind (Yes.of (s50F l) (Yes.cond (fun h=>Yes.some ?_) (fun h=>Yes.jn (Yes.cond (fun h2=>Yes.some ?_) (fun h2=>?_))))))
 ·have : Uv l ≠ 0 := by simpa using h
  simp [Vx,this]
 all_goals have h0:Uv l=0:=by simpa using h
 ·have : ds.length > 100 := by simp at h2; omega
  simp [Vx,h0,this]
 have h2':¬ ds.length > 100:=by simp at h2; omega
 have hg:=Ok h0
 have h53:=s53F ds (fun a0=>f59 a0 l) (fun d=>!Ce l d) (by omega) fun d _=>by unfold f59; rw [s52F hg d]; rfl
 refine Yes.bind (Yes.of h53 (Yes.cond (fun h3=>Yes.some ?_) (fun h3=>Yes.some ?_)))
 ·have:ds.all (Ce l)=false:=by
   rw [List.any_eq_true] at h3
   obtain ⟨d,hd,hn⟩:=h3
   exact List.all_eq_false.2 ⟨d,hd,by simpa using hn⟩
  simp [Vx,h0,h2',this]
 ·have:ds.all (Ce l)=true:=by
   rw [List.any_eq_false] at h3
   exact List.all_eq_true.2 fun d hd=>by simpa using h3 d hd
  simp [Vx,h0,h2',this]
theorem Rv:(2:Nat) ^ 62=4611686018427387904:=by decide
theorem Jk {a:Nat} (ha:a < 2 ^ 62):(BitVec.ofInt 64 (a:Int)).toNat=a:=by
 rw [BitVec.ofInt_natCast,BitVec.toNat_ofNat]
 exact Nat.mod_eq_of_lt (by rw [Rv] at ha; omega)
theorem xor64F {a b:Nat} (ha:a < 2 ^ 62) (hb:b < 2 ^ 62):Tf .xor a b=((a ^^^ b:Nat):Int):=by
 have hx:a ^^^ b < 2 ^ 62:=Nat.xor_lt_two_pow ha hb
 unfold Tf
 simp only [BitVec.toNat_xor,Jk ha,Jk hb]
 rw [Rv] at hx
 exact Km (by omega) (by omega)
theorem or64F {a b:Nat} (ha:a < 2 ^ 62) (hb:b < 2 ^ 62):Tf .or a b=((a ||| b:Nat):Int):=by
 have hx:a ||| b < 2 ^ 62:=Nat.or_lt_two_pow ha hb
 unfold Tf
 simp only [BitVec.toNat_or,Jk ha,Jk hb]
 rw [Rv] at hx
 exact Km (by omega) (by omega)
theorem and64F {a b:Nat} (ha:a < 2 ^ 62) (hb:b < 2 ^ 62):Tf .and a b=((a &&& b:Nat):Int):=by
 have hx:a &&& b < 2 ^ 62:=Nat.and_lt_two_pow a hb
 unfold Tf
 simp only [BitVec.toNat_and,Jk ha,Jk hb]
 rw [Rv] at hx
 exact Km (by omega) (by omega)
theorem shl_bitF {h:Nat} (hh:h < 62):Hj 1 (h:Int)=some ((2 ^ h:Nat):Int):=by
 have hx:2 ^ h < 2 ^ 62:=Nat.pow_lt_pow_right (by decide) hh
 rw [Rv] at hx
 unfold Hj
 rw [if_neg (by omega),show min (h:Int).toNat 64=h by simp; omega,Int.one_mul]
 rw [show ((2:Int) ^ h)=((2 ^ h:Nat):Int) by simp]
 generalize 2 ^ h=q at hx ⊢
 rw [Km (by omega) (by omega)]
theorem shl_twoF {a:Nat} (ha:a < 2 ^ 60):Hj (a:Int) 1=some ((2 * a:Nat):Int):=by
 have:(2:Nat) ^ 60=1152921504606846976:=by decide
 rw [this] at ha
 unfold Hj
 rw [if_neg (by omega),show min (1:Int).toNat 64=1 by rfl]
 rw [Km (by omega) (by omega)]
 simp; omega
theorem shr_bitF {a h:Nat} (hh:h < 62):Ys (a:Int) (h:Int)=some ((a >>> h:Nat):Int):=by
 unfold Ys
 rw [if_neg (by omega),show min (h:Int).toNat 64=h by simp; omega]
 congr 1
 rw [show ((2:Int) ^ h)=((2 ^ h:Nat):Int) by simp,Nat.shiftRight_eq_div_pow]
 generalize 2 ^ h=q
 rw [Int.fdiv_eq_ediv_of_nonneg _ (by omega)]
 exact (Int.natCast_ediv a q).symm

def TbF (H n:Nat) (rows:List Int) (t:Nat→Nat→Bool):Prop:=
 rows.length=n∧∀ p (hp:p < rows.length),∃ a:Nat,rows[p]=(a:Int)∧a < 2 ^ H∧∀ h,h < H→a.testBit h=t p h
theorem Aw {H:Nat} (hH:H ≤ 24) {a:Nat} (ha:a < 2 ^ H):a < 2 ^ 24:=Nat.lt_of_lt_of_le ha (Nat.pow_le_pow_right (by decide) hH)
theorem two24F:(2:Nat) ^ 24 < 2 ^ 62:=by decide
theorem Dz {H:Nat} (hH:H ≤ 24) {a:Nat} (ha:a < 2 ^ H):a < 2 ^ 62:=Nat.lt_trans (Aw hH ha) two24F
theorem TbF.set {H n:Nat} {rows:List Int} {t t':Nat→Nat→Bool} (ht:TbF H n rows t) {p:Nat} {a:Nat} (ha:a < 2 ^ H) (h1:∀ h,h < H→a.testBit h=t' p h) (h2:∀ q h,q ≠ p→h < H→t' q h=t q h):TbF H n (rows.set p (a:Int)) t':=by
 refine ⟨by rw [List.length_set]; exact ht.1,fun q hq=>?_⟩
 rw [List.length_set] at hq
 by_cases hqp:q=p
 ·subst hqp
  exact ⟨a,by simp,ha,h1⟩
 ·obtain ⟨b, hb, hb2, hb3⟩ := ht.2 q hq
  refine ⟨b,?_,hb2,fun h hh=>by rw [hb3 h hh,h2 q h hqp hh]⟩
  rw [List.getElem_set_ne (fun e=>hqp e.symm)]; exact hb
def act1F (p h:Nat) (t:Nat→Nat→Bool):Nat→Nat→Bool:=fun q k=>if q=p∧k=h then !t q k else t q k
theorem s97F {H n : Nat} (hH : H ≤ 24) {rows : List Int} {t : Nat → Nat → Bool} (ht : TbF H n rows t) (l : Gi) {d : Zv} {p h : Nat} (hp : d.Pick = p) (hpn : p < n) (hh : d.Hook = h) (hhH : h < H) :
  Yes (f64 l d rows) fun r=>TbF H n r (act1F p h t):=by
 obtain ⟨a,ha,ha2,ha3⟩:=ht.2 p (by rw [ht.1]; exact hpn)
 have hpl:p < rows.length:=by rw [ht.1]; exact hpn
 unfold f64
 refine Yes.bind (Yes.idx hp hpl (Yes.bind (Yes.of (by rw [hh]; exact shl_bitF (by omega)) (Yes.bind (Yes.idx hp hpl (Yes.some ?_))))))
 have h2:2 ^ h < 2 ^ H:=Nat.pow_lt_pow_right (by decide) hhH
 rw [ha,xor64F (Dz hH ha2) (Dz hH h2),hp,Int.toNat_natCast]
 refine ht.set (Nat.xor_lt_two_pow ha2 h2) (fun k hkF=>?_) (fun q k hq _=>by simp [act1F,hq])
 rw [Nat.testBit_xor,ha3 k hkF,Nat.testBit_two_pow]
 by_cases e:k=h
 ·subst e; simp [act1F]
 ·simp [act1F,e,Ne.symm e]
def act4F (p q:Nat) (t:Nat→Nat→Bool):Nat→Nat→Bool:=fun r k=>if r=q then t p k else if r=p then t q k else t r k
theorem s100F {H n : Nat} {rows : List Int} {t : Nat → Nat → Bool} (ht : TbF H n rows t) (hn : n ≤ 1000) (l : Gi) {d : Zv} {p : Nat} (hp : d.Pick = p) (hpn : p < n) :
  Yes (f67 l d rows) fun r=>TbF H n r (act4F p ((p + 1) % n) t):=by
 have hpl:p < rows.length:=by rw [ht.1]; exact hpn
 have hql:(p + 1) % n < rows.length:=by rw [ht.1]; exact Nat.mod_lt _ (by omega)
 obtain ⟨a,ha,ha2,ha3⟩:=ht.2 p hpl
 obtain ⟨b,hb,hb2,hb3⟩:=ht.2 _ hql
 unfold f67
 have hrem:Hy (w64 (d.Pick + 1)) (rows.length:Int)=some (((p + 1) % n:Nat):Int):=by
  rw [hp,Km (by omega) (by omega),ht.1]
  unfold Hy
  rw [if_neg (by omega)]
  rw [Int.tmod_eq_emod_of_nonneg (by omega)]
  rfl
 refine Yes.bind (Yes.of hrem (Yes.bind (Yes.idx hp hpl (Yes.bind (Yes.idx rfl hql (Yes.bind (Yes.idx hp hpl (Yes.bind (Yes.idx rfl (by rw [List.length_set]; exact hql) (Yes.some ?_))))))))))
 rw [ha,hb,hp,Int.toNat_natCast,Int.toNat_natCast]
 have s1:TbF H n (rows.set p (b:Int)) (fun r k=>if r=p then t ((p + 1) % n) k else t r k):=ht.set hb2 (fun k hkF=>by rw [hb3 k hkF]; simp) (fun q k hq _=>by simp [hq])
 exact s1.set ha2 (fun k hkF=>by rw [ha3 k hkF]; simp [act4F]) (fun q k hq _=>by simp [act4F,hq])
def Yv (h:Nat) (u:Bool) (t:Nat→Nat→Bool):Nat→Nat→Bool:=fun q k=>if k=h then u else t q k
theorem s98F {H n : Nat} (hH : H ≤ 24) {rows : List Int} {t : Nat → Nat → Bool} (ht : TbF H n rows t) (hn : n ≤ 1000) (l : Gi) {d : Zv} {h : Nat} (hh : d.Hook = h) (hhH : h < H) :
  Yes (f65 l d rows) fun r=>TbF H n r (Yv h d.Up t):=by
 unfold f65
 have h2:2 ^ h < 2 ^ H:=Nat.pow_lt_pow_right (by decide) hhH
 have hsh:Hj 1 d.Hook=some ((2 ^ h:Nat):Int):=by rw [hh]; exact shl_bitF (by omega)
 rw [show rows.length=n from ht.1]
 refine Yes.upto n (by omega) (fun i r=>TbF H n r (fun q k=>if q < i then Yv h d.Up t q k else t q k)) (by simpa using ht) (fun i r k hi hI hkF=>?_) (fun r k hI=>?_)
 ·obtain ⟨a, ha, ha2, ha3⟩ := hI.2 i (by rw [hI.1]; exact hi)
  have hil:i < r.length:=by rw [hI.1]; exact hi
  have hor:a ||| 2 ^ h < 2 ^ H:=Nat.or_lt_two_pow ha2 h2
  refine Yes.cond (fun _=>Yes.bind ?_) (fun h=>absurd h (by simp; omega))
  refine Yes.bind (Yes.idx rfl hil (Yes.bind (Yes.of hsh (Yes.bind (Yes.idx rfl hil ?_)))))
  rw [ha,or64F (Dz hH ha2) (Dz hH h2),Int.toNat_natCast]
  refine Yes.cond (fun hu=>?_) (fun hu=>Yes.some (hkF _ ?_))
  ·refine Yes.bind (Yes.idx rfl (by rw [List.length_set]; exact hil) (Yes.bind (Yes.of hsh (Yes.bind (Yes.idx rfl (by rw [List.length_set]; exact hil) (Yes.some (hkF _ ?_)))))))
   simp only [List.getElem_set_self,List.set_set]
   rw [xor64F (Dz hH hor) (Dz hH h2)]
   have hu:d.Up=false:=by simpa using hu
   refine hI.set (Nat.xor_lt_two_pow hor h2) (fun k hkF=>?_) (fun q k hq _=>?_)
   ·rw [Nat.testBit_xor, Nat.testBit_or, ha3 k hkF, Nat.testBit_two_pow]
    by_cases e:k=h
    ·subst e; simp [Yv,hu]
    ·simp [Yv,e,Ne.symm e]
   ·have : (q < i + 1) = (q < i) := by simp; omega
    simp only [this]
  ·have hu : d.Up = true := by simpa using hu
   refine hI.set hor (fun k hkF=>?_) (fun q k hq _=>?_)
   ·rw [Nat.testBit_or, ha3 k hkF, Nat.testBit_two_pow]
    by_cases e:k=h
    ·subst e; simp [Yv,hu]
    ·simp [Yv,e,Ne.symm e]
   ·have : (q < i + 1) = (q < i) := by simp; omega
    simp only [this]
 ·refine Yes.cond (fun h => absurd h (by simp)) (fun _ => Yes.some ?_)
  refine ⟨hI.1,fun q hq=>?_⟩
  obtain ⟨b,hb,hb2,hb3⟩:=hI.2 q hq
  refine ⟨b,hb,hb2,fun k hkF=>?_⟩
  rw [hb3 k hkF]
  exact if_pos (by rw [← hI.1]; exact hq)
def act3F (H p:Nat) (t:Nat→Nat→Bool):Nat→Nat→Bool:=fun q k=>if q=p then t p (H - 1 - k) else t q k
theorem s99F {H n : Nat} (hH : H ≤ 24) {rows : List Int} {t : Nat → Nat → Bool} (ht : TbF H n rows t) (l : FaultLoom) (hl : l.Design.Hooks = H) {d : Zv} {p : Nat} (hp : d.Pick = p) (hpn : p < n) :
  Yes (f66 ⟨l⟩ d rows) fun r=>TbF H n r (act3F H p t):=by
 have hpl:p < rows.length:=by rw [ht.1]; exact hpn
 obtain ⟨b,hb,hb2,hb3⟩:=ht.2 p hpl
 unfold f66
 simp only
 rw [hl]
 refine Yes.bind (Yes.upto H (by omega) (fun i r=>∃ a:Nat,r=(a:Int)∧a < 2 ^ i∧∀ j,j < i→a.testBit j=t p (i - 1 - j)) ⟨0,rfl,by simp,fun _ h=>absurd h (Nat.not_lt_zero _)⟩ (fun i r k hi hI hkF=>?_) (fun r k hI=>?_))
 ·obtain ⟨a, rfl, ha, ha2⟩ := hI
  have ha24:a < 2 ^ 24:=Aw (by omega) ha
  have ha60:a < 2 ^ 60:=Nat.lt_trans ha24 (by decide)
  refine Yes.cond (fun _=>Yes.bind (Yes.bind (Yes.of (shl_twoF ha60) (Yes.bind (Yes.idx hp hpl (Yes.bind (Yes.of (by rw [hb]; exact shr_bitF (by omega)) (Yes.some (hkF _ ?_))))))))) (fun h=>absurd h (by simp; omega))
  have hs:b >>> i < 2 ^ 62:=Nat.lt_of_le_of_lt (Nat.shiftRight_le b i) (Dz hH hb2)
  rw [show (1:Int)=((1:Nat):Int) from rfl,and64F hs (by decide)]
  have h1:(b >>> i) &&& 1 < 2 ^ 1:=Nat.and_lt_two_pow _ (by decide)
  have h2a:2 * a < 2 ^ (i + 1):=by rw [Nat.pow_succ]; omega
  have hb1:(b >>> i) &&& 1 < 2 ^ (i + 1):=Nat.lt_of_lt_of_le h1 (Nat.pow_le_pow_right (by decide) (by omega))
  rw [or64F (Dz (H:=i + 1) (by omega) h2a) (Dz (H:=i + 1) (by omega) hb1)]
  refine ⟨_,rfl,Nat.or_lt_two_pow h2a hb1,fun j hj=>?_⟩
  have e2:2 * a=a <<< 1:=by rw [Nat.shiftLeft_eq]; omega
  rw [Nat.testBit_or,e2,Nat.testBit_shiftLeft,Nat.testBit_and,Nat.testBit_shiftRight]
  cases j with
  | zero=>simp [hb3 i hi]
  | succ j=>
   have:(1:Nat).testBit (j + 1)=false:=by
    rw [show (1:Nat)=2 ^ 0 from rfl,Nat.testBit_two_pow]; simp
   rw [this]
   simp only [Nat.add_sub_cancel,Bool.and_false,Bool.or_false]
   rw [ha2 j (by omega)]
   simp
   congr 1; omega
 ·obtain ⟨a, rfl, ha, ha2⟩ := hI
  refine Yes.cond (fun h=>absurd h (by simp)) (fun _=>Yes.some (Yes.bind (Yes.idx hp hpl (Yes.some ?_))))
  rw [hp,Int.toNat_natCast]
  exact ht.set ha (fun k hkF=>by rw [ha2 k hkF]; simp [act3F]) (fun q k hq _=>by simp [act3F,hq])
def En (b:Bool):UInt8:=if b then 120 else 46
def Hz (m:Nat) (c:Nat→Bool):Str:=⟨(List.range m).map fun w=>En (c w)⟩
def Wb (n m:Nat) (c:Nat→Nat→Bool):List Str:=(List.range n).map fun p=>Hz m (c p)
def hkF (l:FaultLoom) (w:Nat):Nat:=((l.Harness.Warps[w]?).getD 0).toNat
theorem hk_atF {l:FaultLoom} (g:Xg l) {w:Nat} (hw:w < l.Harness.Warps.length):l.Harness.Warps[w]=(hkF l w:Int)∧hkF l w < l.Design.Hooks.toNat:=by
 have:=g.warp _ (List.getElem_mem hw)
 unfold hkF
 rw [List.getElem?_eq_getElem hw]
 simp only [Option.getD_some]
 omega
theorem and_oneF (a:Nat):(((a &&& 1:Nat):Int) == (1:Int))=a.testBit 0:=by
 rw [Bool.eq_iff_iff,Nat.and_one_is_mod]
 simp [Nat.testBit_zero]
 omega
theorem s111F {l:FaultLoom} (g:Xg l) {a w:Nat} (ha:a < 2 ^ 24) (hw:w < l.Harness.Warps.length):f48 ⟨l.Harness⟩ (a:Int) (w:Int)=some (a.testBit (hkF l w)):=by
 obtain ⟨e,hlt⟩:=hk_atF g hw
 have h24:=g.h24
 refine Yes.eq ?_
 unfold f48
 refine Yes.bind (Yes.idx rfl hw (Yes.bind (Yes.of (by rw [e]; exact shr_bitF (by omega)) (Yes.some ?_))))
 have hs:a >>> hkF l w < 2 ^ 62:=Nat.lt_of_le_of_lt (Nat.shiftRight_le a _) (Nat.lt_trans ha two24F)
 rw [show (1:Int)=((1:Nat):Int) from rfl,and64F hs (by decide)]
 show (((a >>> hkF l w &&& 1:Nat):Int) == (1:Int))=_
 rw [and_oneF,Nat.testBit_shiftRight,Nat.add_zero]
theorem s110F (b:Bool):f47 b=some (En b):=by cases b <;> rfl
theorem s102F {l:FaultLoom} (g:Xg l) {a:Nat} (ha:a < 2 ^ 24):f25 ⟨l.Harness⟩ (a:Int)=some (Hz l.Harness.Warps.length fun w=>a.testBit (hkF l w)):=by
 have hw1:=g.w1
 have hw0:=g.w0
 refine Yes.eq ?_
 unfold f25
 simp only
 refine Yes.bind (Yes.upto l.Harness.Warps.length (by omega) (fun i r=>r=(List.range i).map fun w=>En (a.testBit (hkF l w))) rfl (fun i r k hi hI hk'=>?_) (fun r k hI=>?_))
 ·subst hI
  refine Yes.cond (fun _=>Yes.bind (Yes.bind (Yes.of (s111F g ha hi) (Yes.bind (Yes.of (s110F _) (Yes.bind (Yes.apnd (by simp; omega) (by simp; omega) (Yes.some (hk' _ ?_))))))))) (fun h=>absurd h (by simp; omega))
  rw [List.range_succ,List.map_append]; rfl
 ·subst hI
  refine Yes.cond (fun h=>absurd h (by simp)) (fun _=>Yes.some (Yes.bind (Yes.of (a:=Hz l.Harness.Warps.length fun w=>a.testBit (hkF l w)) ?_ (Yes.some rfl))))
  unfold sbstr
  rw [if_neg (by intro h; have:=congrArg List.length h; rw [List.length_map,List.length_range,List.length_nil] at this; omega)]
  rfl
def Fg (l:FaultLoom):Nat→Nat→Bool:=fun p h=>(((l.Design.Rows[p]?).getD 0).toNat).testBit h
theorem Es {l:FaultLoom} (g:Xg l):TbF l.Design.Hooks.toNat l.Design.Rows.length l.Design.Rows (Fg l):=by
 refine ⟨rfl,fun p hp=>?_⟩
 have h1:=g.row _ (List.getElem_mem hp)
 refine ⟨(l.Design.Rows[p]).toNat,by omega,?_,fun h hh=>?_⟩
 ·have : ((2 ^ l.Design.Hooks.toNat : Nat) : Int) = (2 : Int) ^ l.Design.Hooks.toNat := by simp
  rw [← this] at h1
  omega
 ·unfold Fg; rw [List.getElem?_eq_getElem hp]; rfl
theorem tieE_goodF {l:FaultLoom} (g:Xg l):Vc l.Harness=0:=by
 have h1:Wl 1 24 l.Harness.Hooks=true:=by rw [g.hh]; have:=g.h1; have:=g.h24; simp [Wl]; omega
 have h2:l.Harness.Warps.all (Wl 0 (l.Harness.Hooks - 1))=true:=List.all_eq_true.2 fun x hx=>by have:=g.warp x hx; rw [g.hh]; simp [Wl]; omega
 have:=g.w0; have:=g.w1
 unfold Vc
 rw [if_pos h1,if_neg (by omega),if_neg (by omega),if_pos h2]
theorem desE_tbF {l:FaultLoom} (g:Xg l) {rows:List Int} {t:Nat→Nat→Bool} (ht:TbF l.Design.Hooks.toNat l.Design.Rows.length rows t):Uz ⟨l.Design.Hooks,rows⟩=0:=by
 have h1:Wl 1 24 l.Design.Hooks=true:=by have:=g.h1; have:=g.h24; simp [Wl]; omega
 have h2:rows.all (Wl 0 (2 ^ l.Design.Hooks.toNat - 1))=true:=List.all_eq_true.2 fun x hx=>by
  obtain ⟨p,hp,rfl⟩:=List.getElem_of_mem hx
  obtain ⟨a,ha,ha2,_⟩:=ht.2 p hp
  have:((2 ^ l.Design.Hooks.toNat:Nat):Int)=(2:Int) ^ l.Design.Hooks.toNat:=by simp
  rw [ha,← this]
  simp only [Wl,decide_eq_true_eq]
  omega
 have:=g.r0; have:=g.r1; have:=ht.1
 unfold Uz
 simp only
 rw [if_pos h1,if_neg (by omega),if_neg (by omega),if_pos h2]
theorem s82F {l : FaultLoom} (g : Xg l) {rows : List Int} {t : Nat → Nat → Bool} (ht : TbF l.Design.Hooks.toNat l.Design.Rows.length rows t) :
  f10 l.Harness ⟨l.Design.Hooks,rows⟩=some (Wb l.Design.Rows.length l.Harness.Warps.length (fun p w=>t p (hkF l w)),0):=by
 have hr1:=g.r1
 have hw1:=g.w1
 have h24:=g.h24
 refine Yes.eq ?_
 unfold f10
 refine Yes.jn (Yes.bind (Yes.of (s73F _) ?_))
 rw [tieE_goodF g]
 refine Yes.cond (fun h=>nomatch h) (fun _=>Yes.jn (Yes.bind (Yes.of (s74F _) ?_)))
 rw [desE_tbF g ht]
 refine Yes.cond (fun h=>nomatch h) (fun _=>Yes.cond (fun h=>absurd h (by simp [g.hh])) (fun _=>Yes.bind ?_))
 simp only
 rw [ht.1]
 refine Yes.upto l.Design.Rows.length (by omega) (fun i r=>r=Wb i l.Harness.Warps.length fun p w=>t p (hkF l w)) rfl (fun i r k hi hI hk'=>?_) (fun r k hI=>?_)
 ·subst hI
  obtain ⟨a,ha,ha2,ha3⟩:=ht.2 i (by rw [ht.1]; exact hi)
  have h102:=s102F g (Aw (by omega) ha2)
  rw [← ha] at h102
  refine Yes.cond (fun _=>Yes.bind (Yes.bind (Yes.idx rfl (by rw [ht.1]; exact hi) (Yes.bind (Yes.of h102 (Yes.bind (Yes.apnd (by simp [Wb]; omega) (by simp [Wb]; omega) (Yes.some (hk' _ ?_))))))))) (fun h=>absurd h (by simp; omega))
  unfold Wb
  rw [List.range_succ,List.map_append]
  congr 1
  simp only [List.map_cons,List.map_nil,Hz]
  congr 2
  refine List.map_congr_left fun w hw=>?_
  rw [ha3 _ (hk_atF g (List.mem_range.1 hw)).2]
 ·subst hI
  exact Yes.cond (fun h=>absurd h (by simp)) (fun _=>Yes.some (Yes.some rfl))
def BrF (m:Nat) (br:List (Int × Bool)) (B:Nat→Bool):Prop:=(∀ q ∈ br,∃ w:Nat,q.1=(w:Int)∧w < m∧B w=true)∧∀ w,B w=true→∃ q ∈ br,q.1=(w:Int)
theorem mset_memF {br:List (Int × Bool)} {k:Int} {v:Bool} {q:Int × Bool} (h:q ∈ Xt br k v):q=(k,v) ∨ q ∈ br:=by
 induction br with
 | nil=>simp [Xt] at h; exact .inl h
 | cons p m ih=>
  unfold Xt at h
  split at h
  ·rcases List.mem_cons.1 h with rfl | h
   ·exact .inl rfl
   ·exact .inr (List.mem_cons_of_mem _ h)
  ·rcases List.mem_cons.1 h with rfl | h
   ·exact .inr List.mem_cons_self
   ·rcases ih h with h | h
    ·exact .inl h
    ·exact .inr (List.mem_cons_of_mem _ h)
theorem mset_keyF {br:List (Int × Bool)} {k:Int} {v:Bool}:∃ q ∈ Xt br k v,q.1=k:=by
 induction br with
 | nil=>exact ⟨(k,v),by simp [Xt],rfl⟩
 | cons p m ih=>
  unfold Xt
  split
  ·exact ⟨(k,v),List.mem_cons_self,rfl⟩
  ·obtain ⟨q,hq,e⟩:=ih; exact ⟨q,List.mem_cons_of_mem _ hq,e⟩
theorem mset_oldF {br:List (Int × Bool)} {k:Int} {v:Bool} {q:Int × Bool} (h:q ∈ br):∃ q' ∈ Xt br k v,q'.1=q.1:=by
 induction br with
 | nil=>cases h
 | cons p m ih=>
  unfold Xt
  split
  ·rename_i hp
   rcases List.mem_cons.1 h with rfl | h
   ·exact ⟨_,List.mem_cons_self,hp.symm⟩
   ·exact ⟨q,List.mem_cons_of_mem _ h,rfl⟩
  ·rcases List.mem_cons.1 h with rfl | h
   ·exact ⟨_,List.mem_cons_self,rfl⟩
   ·obtain ⟨q',hq',e⟩:=ih h; exact ⟨q',List.mem_cons_of_mem _ hq',e⟩
theorem mset_lenF (br:List (Int × Bool)) (k:Int) (v:Bool):(Xt br k v).length ≤ br.length + 1:=by
 induction br with
 | nil=>simp [Xt]
 | cons p m ih=>unfold Xt; split <;> simp <;> omega
def Ij (l:FaultLoom) (d:Zv) (t:Nat→Nat→Bool):Nat→Nat→Bool:=
 if d.Kind=1 then act1F d.Pick.toNat d.Hook.toNat t else if d.Kind=2 then Yv d.Hook.toNat d.Up t else if d.Kind=3 then act3F l.Design.Hooks.toNat d.Pick.toNat t
 else if d.Kind=4 then act4F d.Pick.toNat ((d.Pick.toNat + 1) % l.Design.Rows.length) t else t
def Ef (d:Zv) (B:Nat→Bool):Nat→Bool:=if d.Kind=5 then fun w=>decide (w=d.Warp.toNat) || B w else B
theorem dmg_isF {l : FaultLoom} {d : Zv} (h : Ce l d = true) :
  (d.Kind=1∧(0 ≤ d.Pick∧d.Pick < l.Design.Rows.length)∧0 ≤ d.Hook∧d.Hook < l.Design.Hooks) ∨ (d.Kind=2∧0 ≤ d.Hook∧d.Hook < l.Design.Hooks) ∨
  ((d.Kind=3 ∨ d.Kind=4)∧0 ≤ d.Pick∧d.Pick < l.Design.Rows.length) ∨ (d.Kind=5∧0 ≤ d.Warp∧d.Warp < l.Harness.Warps.length):=by
 unfold Ce Wl at h
 split at h
 ·rename_i k; simp at h; exact .inl ⟨k,by omega,by omega⟩
 split at h
 ·rename_i k; simp at h; exact .inr (.inl ⟨k,by omega⟩)
 split at h
 ·rename_i k; simp at h; exact .inr (.inr (.inl ⟨k,by omega⟩))
 split at h
 ·rename_i k; simp at h; exact .inr (.inr (.inr ⟨k,by omega⟩))
 ·cases h
theorem sfchgF {l : FaultLoom} (g : Xg l) {d : Zv} (hd : Ce l d = true) {rows : List Int} {br : List (Int × Bool)} {t : Nat → Nat → Bool} {B : Nat → Bool}
  (ht:TbF l.Design.Hooks.toNat l.Design.Rows.length rows t) (hb:BrF l.Harness.Warps.length br B) :
  Yes (fchg d.Kind ⟨l⟩ d rows br) fun r=>TbF l.Design.Hooks.toNat l.Design.Rows.length r.1 (Ij l d t)∧BrF l.Harness.Warps.length r.2 (Ef d B)∧r.2.length ≤ br.length + 1:=by
 have h1:=g.h1
 have h24:=g.h24
 have r1:=g.r1
 have mp:∀ {x:Option (List Int)} {Q:List Int→Prop},Yes x Q→Yes (x.map fun r=>(r,br)) fun r=>Q r.1∧r.2=br:=fun ⟨a,ha,hq⟩=>⟨(a,br),by rw [ha]; rfl,hq,rfl⟩
 unfold fchg Ij Ef
 rcases dmg_isF hd with ⟨k,hp,hh⟩ | ⟨k,hh⟩ | ⟨k | k,hp⟩ | ⟨k,hw⟩
 ·simp only [k]
  exact (mp (s97F (by omega) ht ⟨l⟩ (p:=d.Pick.toNat) (h:=d.Hook.toNat) (by omega) (by omega) (by omega) (by omega))).mono fun r hr=>⟨hr.1,by rw [hr.2]; exact hb,by rw [hr.2]; omega⟩
 ·simp only [k]
  exact (mp (s98F (by omega) ht (by omega) ⟨l⟩ (h:=d.Hook.toNat) (by omega) (by omega))).mono fun r hr=>⟨hr.1,by rw [hr.2]; exact hb,by rw [hr.2]; omega⟩
 ·simp only [k]
  exact (mp (s99F (by omega) ht l (by omega) (p:=d.Pick.toNat) (by omega) (by omega))).mono fun r hr=>⟨hr.1,by rw [hr.2]; exact hb,by rw [hr.2]; omega⟩
 ·simp only [k]
  exact (mp (s100F ht (by omega) ⟨l⟩ (p:=d.Pick.toNat) (by omega) (by omega))).mono fun r hr=>⟨hr.1,by rw [hr.2]; exact hb,by rw [hr.2]; omega⟩
 ·simp only [k]
  refine ⟨(rows,Xt br d.Warp true),rfl,ht,⟨fun q hq=>?_,fun w hw'=>?_⟩,mset_lenF _ _ _⟩
  ·rcases mset_memF hq with rfl | hq
   ·exact ⟨d.Warp.toNat,by simp only; omega,by omega,by simp⟩
   ·obtain ⟨w, e, hlt, hB⟩ := hb.1 q hq
    exact ⟨w,e,hlt,by simp [hB]⟩
  ·simp only [if_true, Bool.or_eq_true, decide_eq_true_eq] at hw'
   rcases hw' with rfl | hw'
   ·obtain ⟨q, hq, e⟩ := mset_keyF (br := br) (k := d.Warp) (v := true)
    exact ⟨q,hq,by rw [e]; omega⟩
   ·obtain ⟨q, hq, e⟩ := hb.2 w hw'
    obtain ⟨q',hq',e'⟩:=mset_oldF (k:=d.Warp) (v:=true) hq
    exact ⟨q',hq',e'.trans e⟩
theorem Ac {α : Type} : ∀ {xs : List α} {p : α × List α}, p ∈ Ke xs → p.2.length < xs.length ∧ p.1 ∈ xs ∧ (∀ q ∈ p.2, q ∈ xs) ∧ ∀ q ∈ xs, q = p.1 ∨ q ∈ p.2
 | [],p,h=>by simp [Ke] at h
 | x :: xs,p,h=>by
  rcases List.mem_cons.1 h with rfl | h
  ·exact ⟨by simp,List.mem_cons_self,fun q hq=>List.mem_cons_of_mem _ hq,fun q hq=>List.mem_cons.1 hq⟩
  ·obtain ⟨p', hp', rfl⟩ := List.mem_map.1 h
   obtain ⟨h1,h2,h3,h4⟩:=Ac hp'
   refine ⟨by simpa using h1,List.mem_cons_of_mem _ h2,fun q hq=>?_,fun q hq=>?_⟩
   ·rcases List.mem_cons.1 hq with rfl | hq
    ·exact List.mem_cons_self
    ·exact List.mem_cons_of_mem _ (h3 q hq)
   ·rcases List.mem_cons.1 hq with rfl | hq
    ·exact .inr List.mem_cons_self
    ·rcases h4 q hq with h | h
     ·exact .inl h
     ·exact .inr (List.mem_cons_of_mem _ h)
theorem yes_pickAllF {α ρ:Type} [DecidableEq ρ] {rem:List α} {k:α→List α→Option ρ} {R:ρ} (hne:rem ≠ []) (h:∀ p ∈ Ke rem,Yes (k p.1 p.2) (fun r=>r=R)):Yes (Go.Proofs.Ytplaipkjhlkjgaa.pickAll rem k) (fun r=>r=R):=by
 cases rem with
 | nil=>exact absurd rfl hne
 | cons x xs=>
  unfold Go.Proofs.Ytplaipkjhlkjgaa.pickAll
  have hx:=(h (x,xs) (by simp [Ke])).eq
  have hall:∀ y ∈ ((Ke xs).map fun p=>(p.1,x :: p.2)).map (fun p=>k p.1 p.2),y=some R:=fun y hy=>by
   obtain ⟨p,hp,rfl⟩:=List.mem_map.1 hy
   exact (h p (by unfold Ke; exact List.mem_cons_of_mem _ hp)).eq
  simp only [Ke,List.map_cons]
  simp only at hx
  rw [hx,if_pos (List.all_eq_true.2 fun y hy=>by simpa using hall y hy)]
  exact ⟨R,rfl,rfl⟩
theorem dotsF {m : Nat} {br : List (Int × Bool)} {B : Nat → Bool} (hb : BrF m br B) (c : Nat → Bool) (hlen : br.length < 1000000) :
  lp (σ := (List UInt8) × (List (Int × Bool))) (fun k156 (m12, m64) => bif m64.isEmpty then some m12 else Go.Proofs.Ytplaipkjhlkjgaa.pickAll m64 fun q rm => (idx m12 q.1).bind fun _ => k156 ((List.set m12 (Int.toNat q.1) ((46 : UInt8))), rm))
   big ((Hz m c).b,br)=some (Hz m fun w=>c w && !B w).b:=by
 refine Yes.eq ?_
 refine Yes.lp (fun s => s.1.length = m ∧ (∀ q ∈ s.2, ∃ w : Nat, q.1 = (w : Int) ∧ w < m ∧ B w = true) ∧ ∀ w (hw : w < s.1.length), (B w = false → s.1[w] = En (c w)) ∧ (B w = true → s.1[w] = 46 ∨ ∃ q ∈ s.2, q.1 = (w : Int)))
  (fun s=>s.2.length) ⟨by simp [Hz],hb.1,fun w hw=>⟨fun _=>by simp [Hz],fun h=>.inr (hb.2 w h)⟩⟩ (by simp only; omega) ?_
 rintro ⟨bs,rem⟩ k ⟨hl,hr,hw⟩ hkF
 simp only at hl hr hw hkF ⊢
 refine Yes.cond (fun he=>Yes.some ?_) (fun he=>yes_pickAllF (by intro h; subst h; simp at he) fun p hp=>?_)
 ·have : rem = [] := by simpa using he
  subst this
  refine List.ext_getElem (by simp [Hz,hl]) fun w h1 h2=>?_
  have:=hw w h1
  simp only [Hz,List.getElem_map,List.getElem_range]
  cases hB:B w with
  | false=>rw [this.1 hB]; simp
  | true=>
   rcases this.2 hB with h | ⟨q,hq,_⟩
   ·rw [h]; simp [En]
   ·cases hq
 ·obtain ⟨h1, h2, h3, h4⟩ := Ac hp
  obtain ⟨w,e,hlt,hB⟩:=hr _ h2
  obtain ⟨⟨k1,k2⟩,l2⟩:=p
  simp only at h1 h2 h3 h4 e ⊢
  subst e
  refine Yes.bind (Yes.idx rfl (by rw [hl]; exact hlt) (hkF _ ⟨by rw [List.length_set]; exact hl,fun q hq=>hr q (h3 q hq),fun v hv=>?_⟩ h1))
  rw [List.length_set] at hv
  simp only [Int.toNat_natCast]
  by_cases hvw:v=w
  ·subst hvw
   exact ⟨fun h=>absurd h (by rw [hB]; decide),fun _=>.inl (by simp)⟩
  ·rw [List.getElem_set_ne (fun h => hvw h.symm)]
   refine ⟨(hw v hv).1,fun hB'=>?_⟩
   rcases (hw v hv).2 hB' with h | ⟨q,hq,e'⟩
   ·exact .inl h
   ·rcases h4 q hq with rfl | hq
    ·exact absurd (by simp only at e'; omega) hvw
    ·exact .inr ⟨q,hq,e'⟩
def Yr (l:FaultLoom) (ds:List Zv):(Nat→Nat→Bool) × (Nat→Bool):=ds.foldl (fun s d=>(Ij l d s.1,Ef d s.2)) (Fg l,fun _=>false)
def rndF (l:FaultLoom) (ds:List Zv):List Str:=Wb l.Design.Rows.length l.Harness.Warps.length fun p w=>(Yr l ds).1 p (hkF l w) && !(Yr l ds).2 w
theorem after_takeF {l:FaultLoom} {ds:List Zv} {i:Nat} (hi:i < ds.length):Yr l (ds.take (i + 1))=(Ij l ds[i] (Yr l (ds.take i)).1,Ef ds[i] (Yr l (ds.take i)).2):=by
 unfold Yr
 rw [List.take_succ_eq_append_getElem hi,List.foldl_append]
 rfl
theorem s55F {l:FaultLoom} (g:Xg l) {ds ds':List Zv} (hs:f35 ds (fun a0 a1=>f36 a0 a1)=some ds') (hl:ds.length ≤ 100000) (hl':ds'.length ≤ 100000) (hall:∀ d ∈ ds',Ce l d=true):f19 ⟨l⟩ ds=some (rndF l ds'):=by
 have hr1:=g.r1
 have hw1:=g.w1
 refine Yes.eq ?_
 unfold f19 f33 f34
 refine Yes.bind (Yes.apnd (by simp; omega) (by simp; omega) (Yes.bind (Yes.apnd (by simp; omega) (by simp; omega) ?_)))
 rw [List.nil_append,List.nil_append]
 refine Yes.bind (Yes.of hs (Yes.bind ?_))
 refine Yes.upto2 ds'.length (by omega) (fun i rows br => TbF l.Design.Hooks.toNat l.Design.Rows.length rows (Yr l (ds'.take i)).1 ∧ BrF l.Harness.Warps.length br (Yr l (ds'.take i)).2 ∧ br.length ≤ i)
  ⟨Es g,⟨fun q hq=>by (cases hq),fun w hw=>by (cases hw)⟩,Nat.le_refl _⟩ (fun i rows br k hi hI hk'=>?_) (fun rows br k hI=>?_)
 ·obtain ⟨ht, hb, hlen⟩ := hI
  refine Yes.cond (fun _=>Yes.bind (Yes.bind (Yes.idx rfl hi (Yes.bind ((sfchgF g (hall _ (List.getElem_mem hi)) ht hb).mono fun r hr=>Yes.some (hk' _ _ ?_)))))) (fun h=>absurd h (by simp; omega))
  rw [after_takeF hi]
  exact ⟨hr.1,hr.2.1,by have:=hr.2.2; omega⟩
 ·obtain ⟨ht, hb, hlen⟩ := hI
  rw [List.take_length] at ht hb
  refine Yes.cond (fun h=>absurd h (by simp)) (fun _=>Yes.some (Yes.bind (Yes.of (s82F g ht) (Yes.bind ?_))))
  simp only
  rw [show (Wb l.Design.Rows.length l.Harness.Warps.length fun p w=>(Yr l ds').1 p (hkF l w)).length=l.Design.Rows.length by simp [Wb]]
  refine Yes.upto l.Design.Rows.length (by omega) (fun i r=>r=(List.range l.Design.Rows.length).map fun p=>Hz l.Harness.Warps.length fun w=>(Yr l ds').1 p (hkF l w) && !(decide (p < i) && (Yr l ds').2 w)) ?_ (fun i r k hi hI hk'=>?_) (fun r k hI=>?_)
  ·simp [Wb]
  ·subst hI
   refine Yes.cond (fun _=>Yes.bind (Yes.bind (Yes.idx rfl (by simpa using hi) (Yes.bind ?_)))) (fun h=>absurd h (by simp; omega))
   simp only [List.getElem_map,List.getElem_range]
   refine Yes.of (dotsF hb _ (by omega)) (Yes.bind (Yes.idx rfl (by simpa using hi) (Yes.some (hk' _ ?_))))
   rw [Int.toNat_natCast]
   refine List.ext_getElem (by simp) fun p h1 h2=>?_
   simp only [List.length_set,List.length_map,List.length_range] at h1
   rw [List.getElem_set]
   simp only [List.getElem_map,List.getElem_range]
   by_cases hpi:i=p
   ·subst hpi
    rw [if_pos rfl]
    show Hz _ _=Hz _ _
    congr 1; funext w; simp
   ·rw [if_neg hpi]
    congr 1; funext w
    have:(decide (p < i + 1))=decide (p < i):=by
     rw [Bool.eq_iff_iff]; simp; omega
    rw [this]
  ·subst hI
   refine Yes.cond (fun h=>absurd h (by simp)) (fun _=>Yes.some (Yes.some ?_))
   unfold rndF Wb
   refine List.map_congr_left fun p hp=>?_
   have hp:=List.mem_range.1 hp
   congr 1; funext w; simp [hp]
theorem lp_bigF {σ ρ:Type} (body:(σ→Option ρ)→σ→Option ρ) (s:σ):lp body big s=body (lp body 18446744073709551615) s:=by
 rw [show big=18446744073709551615 + 1 by unfold big; rfl]; rfl
theorem s107_fewF (xs:List Zv) (n:Int) (hn:n ≤ 1) (φ:Zv→Zv→Option Int):f87 xs 0 n φ=some xs:=by
 unfold f87
 rw [lp_bigF,Km (n:=0 + 1) (by decide) (by decide)]
 have:decide ((0:Int) + 1 < n)=false:=by simp; omega
 simp only [jn,this,cond_false]
theorem s96_fewF (xs:List Zv) (n:Int) (hn:n < 20) (φ:Zv→Zv→Option Int) (ys:List Zv) (h:f87 xs 0 n φ=some ys):f63 xs n φ=some ys:=by
 unfold f63
 rw [lp_bigF]
 have h1:decide ((20:Int) ≤ n)=false:=by simp; omega
 simp only [jn,h1,cond_false,Option.bind_some,h]
 rw [lp_bigF]
 have h2:decide ((20:Int) < n)=false:=by simp; omega
 simp only [h2,cond_false]
theorem s78_oneF (d:Zv):f35 [d] (fun a0 a1=>f36 a0 a1)=some [d]:=by
 unfold f35; rw [s96_fewF [d] _ (by simp) _ [d] (s107_fewF _ _ (by simp) _)]; rfl
theorem Eh (m:Nat) (c:Nat→Bool):(Hz m c).b.length=m:=by simp [Hz]
theorem line_atF {m:Nat} {c:Nat→Bool} {j:Nat} (h:j < (Hz m c).b.length):(Hz m c).b[j]=En (c j):=by simp [Hz]
theorem Yd (n m:Nat) (c:Nat→Nat→Bool):(Wb n m c).length=n:=by simp [Wb]
theorem Po {n m:Nat} {c:Nat→Nat→Bool} {i:Nat} (h:i < (Wb n m c).length):(Wb n m c)[i]=Hz m (c i):=by simp [Wb]
def rcF (l:FaultLoom) (ds:List Zv) (p w:Nat):Bool:=(Yr l ds).1 p (hkF l w) && !(Yr l ds).2 w
theorem rnd_isF (l:FaultLoom) (ds:List Zv):rndF l ds=Wb l.Design.Rows.length l.Harness.Warps.length (rcF l ds):=rfl
def SameF {α:Type} (a b:List α) (i:Nat):Prop:=∀ n (h1:n < a.length) (h2:n < b.length),n < i→a[n]=b[n]
theorem same_noF {α:Type} [DecidableEq α] {a b:List α} (h:((a.length:Int) != (b.length:Int))=true):false=decide (a=b):=by
 have:a ≠ b:=fun e=>by rw [e] at h; simp at h
 simp [this]
theorem same_lenF {α:Type} {a b:List α} (h:((a.length:Int) != (b.length:Int))=false):a.length=b.length:=by simp at h; omega
theorem same_zeroF {α:Type} (a b:List α):SameF a b 0:=fun _ _ _ h=>absurd h (Nat.not_lt_zero _)
theorem same_stepF {α : Type} [DecidableEq α] {a b : List α} {ne : α → α → Bool} (hne : ∀ x y, ne x y = !decide (x = y)) (hl : a.length = b.length) {i : Nat} (hi : i < a.length) (hI : SameF a b i) {k : Option Bool} (hkF : SameF a b (i + 1) → Yes k fun r => r = decide (a = b)) :
  Yes ((idx a (i:Int)).bind fun x=>(idx b (i:Int)).bind fun y=>bif ne x y then some false else k) (fun r=>r=decide (a=b)):=by
 refine Yes.bind (Yes.idx rfl hi (Yes.bind (Yes.idx rfl (by omega) (Yes.cond (fun h=>Yes.some ?_) (fun h=>hkF ?_)))))
 ·rw [hne] at h
  have hd:a[i] ≠ b[i]:=by simpa using h
  have:a ≠ b:=fun e=>hd (by simp only [e])
  simp [this]
 ·rw [hne] at h
  have he:a[i]=b[i]:=by simpa using h
  intro n h1 h2 hn
  rcases Nat.lt_succ_iff_lt_or_eq.1 hn with h | rfl
  ·exact hI n h1 h2 h
  ·exact he
theorem same_endF {α:Type} [DecidableEq α] {a b:List α} (hl:a.length=b.length) (hI:SameF a b a.length):true=decide (a=b):=by
 have:a=b:=List.ext_getElem hl fun n h1 h2=>hI n h1 h2 h1
 simp [this]
theorem str_neF (x y:Str):(!(x.b == y.b))=!decide (x=y):=by
 congr 1
 rw [Bool.eq_iff_iff]
 obtain ⟨x⟩:=x; obtain ⟨y⟩:=y
 simp
theorem rem_natF {a b:Nat} (hb:0 < b):Hy (a:Int) (b:Int)=some ((a % b:Nat):Int):=by
 unfold Hy
 rw [if_neg (by omega),Int.tmod_eq_emod_of_nonneg (by omega)]
 rfl
theorem chk_goodF {l:FaultLoom} {ds:List Zv} (h:Vx l ds=0):Xg l∧ds.length ≤ 100∧∀ d ∈ ds,Ce l d=true:=by
 unfold Vx at h
 split at h
 ·rename_i h1; exact absurd h h1
 rename_i h1
 have h1:=Decidable.not_not.1 h1
 split at h
 ·cases h
 split at h
 ·rename_i h2 h3; exact ⟨Ok h1,by omega,List.all_eq_true.1 h3⟩
 ·cases h
def Xu (l:FaultLoom) (ds:List Zv) (k:Int):Int:=if Vx l ds ≠ 0 then Vx l ds else if Wl 1 120 k then 0 else 3
theorem s54F (l:FaultLoom) (ds:List Zv) (k:Int):f18 l ds k=some (Xu l ds k):=by
 refine Yes.eq ?_
 unfold f18
 refine Yes.jn (Yes.bind (Yes.of (s18F _ _) (Yes.cond (fun h=>Yes.some ?_) (fun h=>Yes.jn (Yes.bind (Yes.of (s62F 1 120 [k] (by simp)) (Yes.cond (fun h2=>Yes.some ?_) (fun h2=>Yes.some ?_))))))))
 ·have h : Vx l ds ≠ 0 := by simpa using h
  unfold Xu; rw [if_pos h]
 all_goals
  have h:¬ Vx l ds ≠ 0:=by simpa using h
  simp only [List.all_cons,List.all_nil,Bool.and_true,← Wl.eq_1] at h2
 ·have h2 : Wl 1 120 k = false := by simpa using h2
  unfold Xu; rw [if_neg h,h2]; rfl
 ·have h2 : Wl 1 120 k = true := by simpa using h2
  unfold Xu; rw [if_neg h,h2]; rfl
def Nn (l:FaultLoom) (ds:List Zv) (k:Nat):List Str:=Wb k l.Harness.Warps.length fun p w=>rcF l ds (p % l.Design.Rows.length) w
theorem s19F {l:FaultLoom} {ds ds':List Zv} {k:Int} (hs:f35 ds (fun a0 a1=>f36 a0 a1)=some ds') (hl':ds'.length ≤ 100000) (hall:∀ d ∈ ds',Ce l d=true) (ho:Xu l ds k=0):f5 l ds k=some (Nn l ds' k.toNat,0):=by
 have hc:Vx l ds=0:=by
  unfold Xu at ho
  split at ho
  ·rename_i h1; exact absurd ho h1
  ·rename_i h1; exact Decidable.not_not.1 h1
 have hkF:1 ≤ k∧k ≤ 120:=by
  unfold Xu at ho
  rw [if_neg (fun hh=>hh hc)] at ho
  split at ho
  ·rename_i hb; simpa [Wl] using hb
  ·cases ho
 obtain ⟨g,hlen,hd⟩:=chk_goodF hc
 refine Yes.eq ?_
 unfold f5
 refine Yes.jn (Yes.bind (Yes.of (s54F l ds k) (Yes.cond (fun h=>absurd (by simpa using h) (by rw [ho]; simp)) (fun _=>Yes.bind (Yes.of (s55F g hs (by omega) hl' hall) (Yes.bind ?_))))))
 rw [rnd_isF]
 have hr0:=g.r0
 have hr1:=g.r1
 obtain ⟨kn,rfl⟩:=Int.eq_ofNat_of_zero_le (show 0 ≤ k by omega)
 rw [Int.toNat_natCast,Yd]
 refine Yes.upto kn (by omega) (fun i r=>r=Nn l ds' i) rfl (fun i r k2 hi hI hk2=>?_) (fun r k2 hI=>?_)
 ·subst hI
  have hlt:i % l.Design.Rows.length < l.Design.Rows.length:=Nat.mod_lt _ hr0
  refine Yes.cond (fun _=>Yes.bind (Yes.bind (Yes.of (rem_natF hr0) (Yes.bind (Yes.idx rfl (by rw [Yd]; exact hlt) ?_))))) (fun h=>absurd h (by simp; omega))
  rw [Po]
  refine Yes.bind (Yes.apnd (by unfold Nn; rw [Yd]; simp; omega) (by unfold Nn; rw [Yd]; simp; omega) (Yes.some (hk2 _ ?_)))
  unfold Nn Wb
  rw [List.range_succ,List.map_append]; rfl
 ·subst hI
  exact Yes.cond (fun h=>absurd h (by simp)) (fun _=>Yes.some (Yes.some rfl))
theorem open_okF {l:FaultLoom} {ds:List Zv} {k:Int} (hc:Vx l ds=0) (h1:1 ≤ k) (h2:k ≤ 120):Xu l ds k=0:=by
 unfold Xu; rw [if_neg (fun hh=>hh hc),if_pos (by simp [Wl]; omega)]
theorem chk_okF {l:FaultLoom} {ds:List Zv} (g:Uv l=0) (hl:ds.length ≤ 100) (hd:∀ d ∈ ds,Ce l d=true):Vx l ds=0:=by
 unfold Vx; rw [if_neg (fun hh=>hh g),if_neg (by omega),if_pos (List.all_eq_true.2 hd)]
theorem rc_oneF (l:FaultLoom) (d:Zv) (p w:Nat):rcF l [d] p w=(Ij l d (Fg l) p (hkF l w) && !Ef d (fun _=>false) w):=by simp [rcF,Yr]
theorem Hn {α:Type} {Q:α→Prop} {c:Bool} {X Y:Option α} (hc:c=false) (h:Yes Y Q):Yes (bif c then X else Y) Q:=by rw [hc]; exact h
theorem Yu {α:Type} {Q:α→Prop} {c:Bool} {X Y:Option α} (hc:c=true) (h:Yes X Q):Yes (bif c then X else Y) Q:=by rw [hc]; exact h
theorem Qt {α β:Type} {Q:β→Prop} {x:Option α} {f:α→Option β} (a:α) (h:x=some a) (k:Yes (f a) Q):Yes (x.bind f) Q:=by rw [h]; exact k
theorem Ll {α:Type} {xs:List α} {i:Nat} (h:i < xs.length):idx xs (i:Int)=some xs[i]:=by unfold idx; rw [if_pos (Int.natCast_nonneg i)]; exact List.getElem?_eq_getElem h
theorem rem_isF {a b:Int} (ha:0 ≤ a) (hb:0 < b):Hy a b=some (a % b):=by
 unfold Hy
 rw [if_neg (by omega),Int.tmod_eq_emod_of_nonneg ha]
theorem tw64F {n:Int} (h1:-1000000000 ≤ n) (h2:n ≤ 1000000000):w64 n=n:=Km (by omega) (by omega)
theorem apnd8F {xs:List Int} {y:Int} (h:xs.length ≤ 1000):apnd 8 xs [y]=some (xs ++ [y]):=Yes.eq (Yes.apnd (by simp; omega) (by simp; omega) rfl)
structure ArmF (l : FaultLoom) : Prop where
 ok:Uv l=0
 r10:l.Design.Rows.length ≤ 10
 r1:1 ≤ l.Design.Rows.length
 w1:1 ≤ l.Harness.Warps.length
 w30:l.Harness.Warps.length ≤ 30
 hkF:l.Harness.Hooks=l.Design.Hooks∧1 ≤ l.Design.Hooks∧l.Design.Hooks ≤ 12
theorem arm_harnessF (x:Jo):Yes (f16 x) fun h=>h.Hooks=1 + ((x.Hooks.toNat:Nat):Int) % 12∧1 ≤ h.Warps.length∧h.Warps.length ≤ 30∧∀ w ∈ h.Warps,0 ≤ w∧w < h.Hooks:=by
  unfold f16
  have hr:Hy ((x.Hooks.toNat:Nat):Int) 12=some (((x.Hooks.toNat:Nat):Int) % 12):=rem_isF (by omega) (by omega)
  refine Qt _ hr ?_
  generalize hh:((x.Hooks.toNat:Nat):Int) % 12=r
  have hr0:0 ≤ r∧r < 12:=by rw [← hh]; exact ⟨Int.emod_nonneg _ (by omega),Int.emod_lt_of_pos _ (by omega)⟩
  rw [tw64F (n:=1 + r) (by omega) (by omega)]
  refine Yes.bind ?_
  refine Yes.upto (σ:=TieHarness) 30 (by omega) (fun i h=>h.Hooks=1 + r∧h.Warps.length=i∧∀ w ∈ h.Warps,0 ≤ w∧w < 1 + r) ⟨rfl,rfl,fun w hw=>by cases hw⟩ (fun i h k hi hI hkF=>?_) (fun h k hI=>?_)
  · obtain ⟨h1, h2, h3⟩ := hI
    refine Yes.jn ?_
    have hgo:∀ {Q:TieHarness→Prop},(∀ y,0 ≤ y→y < 1 + r→Yes (k ({ h with Warps:=h.Warps ++ [y] },w64 ((i:Int) + 1))) Q)→Yes (Option.bind (α:=TieHarness) (
     Option.bind (α:=Int) (
      bif (decide ((i : Int) < (((x).Warps).length : Int))) then
       (idx ((x).Warps) (i:Int)).bind fun n7=>
       (Hy ((n7).toNat:Int) (h).Hooks).bind fun o7=>
       some (o7)
      else
       some ((0:Int))
      ) fun i5=>
     (apnd 8 ((h).Warps) (([i5]:List Int))).bind fun o8=>
     some ({ h with Warps:=o8 })
     ) fun l5=>
    k (l5,(w64 ((i:Int) + (1:Int))))) Q:=fun hy=>by
      by_cases hx:i < x.Warps.length
      · have hrm : Hy ((x.Warps[i].toNat : Nat) : Int) h.Hooks = some (((x.Warps[i].toNat : Nat) : Int) % h.Hooks) := rem_isF (by omega) (by omega)
        refine Yes.bind (Yes.bind (Yu (decide_eq_true (Int.ofNat_lt.2 hx)) (Qt _ (Ll hx) (Qt _ hrm (Yes.some (Qt _ (apnd8F (by omega)) (Yes.some ?_)))))))
        exact hy _ (Int.emod_nonneg _ (by omega)) (by rw [← h1]; exact Int.emod_lt_of_pos _ (by omega))
      · refine Yes.bind (Yes.bind (Hn (decide_eq_false (by omega)) (Yes.some (Qt _ (apnd8F (by omega)) (Yes.some ?_)))))
        exact hy _ (by omega) (by omega)
    have hnext:∀ y,0 ≤ y→y < 1 + r→_:=fun y hy1 hy2=>hkF { h with Warps:=h.Warps ++ [y] } ⟨h1,by simp [h2],fun w hw=>by
      rcases List.mem_append.1 hw with hw | hw
      · exact h3 w hw
      · rw [List.mem_singleton.1 hw]; exact ⟨hy1,hy2⟩⟩
    by_cases h0:i=0
    · subst h0
      refine Qt true rfl (Yu rfl ?_)
      exact hgo hnext
    · by_cases hx : i < x.Warps.length
      · refine Qt true ?_ (Yu rfl ?_)
        · have : ((i : Int) == 0) = false := by rw [beq_eq_false_iff_ne]; omega
          rw [this,decide_eq_true (Int.ofNat_lt.2 hx),decide_eq_true (show (i:Int) < 30 by omega)]; rfl
        · exact hgo hnext
      · refine Qt false ?_ (Hn rfl (Yes.some (Yes.some ⟨h1, by omega, by omega, fun w hw => by rw [h1]; exact h3 w hw⟩)))
        have:((i:Int) == 0)=false:=by rw [beq_eq_false_iff_ne]; omega
        rw [this,decide_eq_false (show ¬ (i:Int) < (x.Warps.length:Int) by omega)]; rfl
  · obtain ⟨h1, h2, h3⟩ := hI
    refine Yes.jn (Qt false ?_ (Hn rfl (Yes.some (Yes.some ⟨h1,by omega,by omega,fun w hw=>by rw [h1]; exact h3 w hw⟩))))
    cases decide (((30:Nat):Int) < (x.Warps.length:Int)) <;> rfl
theorem wu64_idF {n:Int} (h1:0 ≤ n) (h2:n ≤ 9223372036854775807):Qo n=n:=by
 unfold Qo; rw [IntKind.wrap_u64]; omega
theorem arm_designF (x:Jo):Yes (f17 x) fun d=>d.Hooks=1 + ((x.Hooks.toNat:Nat):Int) % 12∧1 ≤ d.Rows.length∧d.Rows.length ≤ 10∧∀ w ∈ d.Rows,0 ≤ w∧w ≤ 2 ^ d.Hooks.toNat - 1:=by
  unfold f17
  have hr:Hy ((x.Hooks.toNat:Nat):Int) 12=some (((x.Hooks.toNat:Nat):Int) % 12):=rem_isF (by omega) (by omega)
  refine Qt _ hr ?_
  generalize hh:((x.Hooks.toNat:Nat):Int) % 12=r
  have hr0:0 ≤ r∧r < 12:=by rw [← hh]; exact ⟨Int.emod_nonneg _ (by omega),Int.emod_lt_of_pos _ (by omega)⟩
  rw [tw64F (n:=1 + r) (by omega) (by omega)]
  refine Yes.bind ?_
  refine Yes.upto (σ:=Design) 10 (by omega) (fun i h=>h.Hooks=1 + r∧h.Rows.length=i∧∀ w ∈ h.Rows,0 ≤ w∧w ≤ 2 ^ (1 + r).toNat - 1) ⟨rfl,rfl,fun w hw=>by cases hw⟩ (fun i h k hi hI hkF=>?_) (fun h k hI=>?_)
  · obtain ⟨h1, h2, h3⟩ := hI
    refine Yes.jn ?_
    have hgo:∀ {Q:Design→Prop},(∀ y,0 ≤ y→y ≤ 2 ^ (1 + r).toNat - 1→Yes (k ({ h with Rows:=h.Rows ++ [y] },w64 ((i:Int) + 1))) Q)→Yes (Option.bind (α:=Design) (
     Option.bind (α:=Int) (
      bif (decide ((i : Int) < (((x).Rows).length : Int))) then
       (idx ((x).Rows) (i:Int)).bind fun d7=>
       some (((d7).toNat:Int))
      else
       some ((21:Int))
      ) fun j3=>
     (Hj (1:Int) (Qo (h).Hooks)).bind fun l5=>
     (apnd 8 ((h).Rows) (([(Tf .and j3 (w64 (l5 - (1:Int))))]:List Int))).bind fun o8=>
     some ({ h with Rows:=o8 })
     ) fun z4=>
    k (z4,(w64 ((i:Int) + (1:Int))))) Q:=fun {Q} hy=>by
      have hp:(2:Int) ^ (1 + r).toNat=((2 ^ (1 + r).toNat:Nat):Int):=by simp
      have hsm:=Rw (n:=1 + r) (by omega) (by omega)
      have hsh:Hj 1 (Qo h.Hooks)=some ((2 ^ (1 + r).toNat:Nat):Int):=by rw [h1,wu64_idF (by omega) (by omega),shl_oneF (by omega) (by omega),hp]
      have hand:∀ a:Nat,a < 2 ^ 62→Yes (Option.bind (some (a:Int)) fun j3=>(Hj (1:Int) (Qo (h).Hooks)).bind fun l5=>(apnd 8 ((h).Rows) (([(Tf .and j3 (w64 (l5 - (1:Int))))]:List Int))).bind fun o8=>some ({ h with Rows:=o8 })) fun z4=>Yes (k (z4,(w64 ((i:Int) + (1:Int))))) Q:=fun a ha=>by
        have hw:w64 (((2 ^ (1 + r).toNat:Nat):Int) - 1)=((2 ^ (1 + r).toNat - 1:Nat):Int):=by rw [tw64F (by omega) (by omega)]; omega
        refine Qt _ rfl (Qt _ hsh ?_)
        rw [hw,and64F ha (by rw [Rv]; omega),apnd8F (by omega)]
        refine Qt _ rfl (Yes.some (hy _ (by omega) ?_))
        have:=Nat.and_le_right (n:=a) (m:=2 ^ (1 + r).toNat - 1)
        rw [hp]; omega
      refine Yes.bind ?_
      by_cases hx:i < x.Rows.length
      · have e:(bif (decide ((i:Int) < (((x).Rows).length:Int))) then (idx ((x).Rows) (i:Int)).bind fun d7=>some (((d7).toNat:Int)) else some ((21:Int)))=some ((x.Rows[i].toNat:Nat):Int):=by
          rw [decide_eq_true (Int.ofNat_lt.2 hx),cond_true,Ll hx]; rfl
        rw [e]
        refine hand _ ?_
        have:=x.Rows[i].toNat_lt
        rw [Rv]; omega
      · have e:(bif (decide ((i:Int) < (((x).Rows).length:Int))) then (idx ((x).Rows) (i:Int)).bind fun d7=>some (((d7).toNat:Int)) else some ((21:Int)))=some (((21:Nat):Nat):Int):=by
          rw [decide_eq_false (by omega)]; rfl
        rw [e]
        exact hand 21 (by decide)
    have hnext:∀ y:Int,0 ≤ y→y ≤ 2 ^ (1 + r).toNat - 1→_:=fun y hy1 hy2=>hkF { h with Rows:=h.Rows ++ [y] } ⟨h1,by simp [h2],fun w hw=>by
      rcases List.mem_append.1 hw with hw | hw
      · exact h3 w hw
      · rw [List.mem_singleton.1 hw]; exact ⟨hy1,hy2⟩⟩
    by_cases h0:i=0
    · subst h0
      refine Qt true rfl (Yu rfl ?_)
      exact hgo hnext
    · by_cases hx : i < x.Rows.length
      · refine Qt true ?_ (Yu rfl ?_)
        · have : ((i : Int) == 0) = false := by rw [beq_eq_false_iff_ne]; omega
          rw [this,decide_eq_true (Int.ofNat_lt.2 hx),decide_eq_true (show (i:Int) < 10 by omega)]; rfl
        · exact hgo hnext
      · refine Qt false ?_ (Hn rfl (Yes.some (Yes.some ⟨h1, by omega, by omega, fun w hw => by rw [h1]; exact h3 w hw⟩)))
        have:((i:Int) == 0)=false:=by rw [beq_eq_false_iff_ne]; omega
        rw [this,decide_eq_false (show ¬ (i:Int) < (x.Rows.length:Int) by omega)]; rfl
  · obtain ⟨h1, h2, h3⟩ := hI
    refine Yes.jn (Qt false ?_ (Hn rfl (Yes.some (Yes.some ⟨h1,by omega,by omega,fun w hw=>by rw [h1]; exact h3 w hw⟩))))
    cases decide (((10:Nat):Int) < (x.Rows.length:Int)) <;> rfl
end Go.Proofs.Ytplaipkjhlkjgaa
