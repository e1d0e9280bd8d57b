/- Laws of plain functions, part 1. -/
import Derived.Test.YtbelgnbjkciafaaGreatDoorYes
set_option maxRecDepth 8000
namespace Go.Proofs.YtbelgnbjkciafaaGreatDoor
open Go.RowKit
open Classical
theorem qskip {α:Type} {Q:α→Prop} {c:Bool} {X Y:Option α} (hc:c=false) (h:Yes Y Q):Yes (bif c then X else Y) Q:=by rw [hc]; exact h
theorem qtake {α:Type} {Q:α→Prop} {c:Bool} {X Y:Option α} (hc:c=true) (h:Yes X Q):Yes (bif c then X else Y) Q:=by rw [hc]; exact h
theorem qbind {α β:Type} {Q:β→Prop} {x:Option α} {f:α→Option β} (a:α) (h:x=some a) (k:Yes (f a) Q):Yes (x.bind f) Q:=by rw [h]; exact k
theorem qidx {α:Type} {xs:List α} {i:Nat} (h:i < xs.length):idx xs (i:Int)=some xs[i]:=by unfold idx; rw [if_pos (Int.natCast_nonneg i)]; exact List.getElem?_eq_getElem h
theorem quo_nn {a b:Int} (ha:0 ≤ a) (ha2:a ≤ 9223372036854775807) (hb:0 < b):quo64 a b=some (a / b):=by
 unfold quo64
 rw [if_neg (by omega),Int.tdiv_eq_ediv_of_nonneg ha,w64_id]
 ·have:=Int.ediv_nonneg ha (Int.le_of_lt hb); omega
 ·exact Int.le_trans (Int.ediv_le_self b ha) ha2
def btw (a b x:Int):Bool:=decide (a ≤ x∧x ≤ b)
theorem btw_iff {a b x:Int}:btw a b x=true ↔ a ≤ x∧x ≤ b:=by simp [btw]
theorem s103 (xs:List Int) (φ:Int→Option Bool) (p:Int→Bool) (hl:xs.length < 9223372036854775807) (h:∀ a ∈ xs,φ a=some (p a)):f56 xs φ=some (xs.any p):=
 Yes.eq (Yes.bind (Yes.mono (index_is xs φ p hl h) fun _ hr=>Yes.some (index_any hr)))
theorem vidx {α:Type} {n:Nat} (v:Vector α n) {i:Nat} (h:i < n):idx v.toList (i:Int)=some v[i]:=by
 rw [qidx (by simpa using h)]; simp
theorem rem_nn {a b:Int} (ha:0 ≤ a) (hb:0 < b):rem64 a b=some (a % b):=by
 unfold rem64; rw [if_neg (by omega),Int.tmod_eq_emod_of_nonneg ha]
theorem b230 (x a b:Int):f57 x a b=some (!btw a b x):=by unfold f57 btw; by_cases h1:x < a <;> by_cases h2:x > b <;> simp [h1,h2] <;> omega
theorem b155 (a b:Int) (xs:List Int) (hl:xs.length < 9223372036854775807):f24 a b xs=some (xs.all (btw a b)):=by
 unfold f24
 rw [s103 xs _ (fun x=>!btw a b x) hl fun x _=>b230 x a b]
 simp [List.all_eq_not_any_not]
theorem b154 (xs:List Int) (hl:xs.length < 9223372036854775807):f53 xs=some (xs.all (btw 1 100)):=by unfold f53; rw [b155 _ _ _ hl]; rfl
theorem b156 (xs:List BeamPair) (φ:BeamPair→Option Bool) (p:BeamPair→Bool) (hl:xs.length < 9223372036854775807) (h:∀ a ∈ xs,φ a=some (p a)):f54 xs φ=some (xs.any p):=by
 obtain ⟨r,hr,hq⟩:=index_is xs φ p hl h
 have hr:f92 xs φ=some r:=hr
 unfold f54; rw [hr]; simp only [Option.bind_some]; rw [index_any hq]
def TkOk (t:BeamTake):Prop:=∃ r s a b u:Int,t=⟨r,s,[⟨a,b⟩],u⟩∧(20 ≤ r∧r ≤ 100)∧(1 ≤ s∧s ≤ 5)∧(10 ≤ a∧a ≤ 100)∧(10 ≤ b∧b ≤ 100)∧100000 ≤ u∧u ≤ 355000
theorem s19t (v:Vector UInt8 4):Yes (f6 v) TkOk:=by
 have byte:∀ u:UInt8,(0:Int) ≤ (u.toNat:Int)∧(u.toNat:Int) ≤ 255:=fun u=>by have:=u.toNat_lt; omega
 unfold f6
 refine qbind _ (vidx v (i:=0) (by omega)) (qbind _ (rem_nn (byte _).1 (by omega)) (qbind _ (vidx v (i:=1) (by omega)) (qbind _ (rem_nn (byte _).1 (by omega)) (qbind _ (vidx v (i:=2) (by omega)) (qbind _ (rem_nn (byte _).1 (by omega)) (qbind _ (vidx v (i:=3) (by omega)) (qbind _ (rem_nn (byte _).1 (by omega)) (qbind _ (vidx v (i:=0) (by omega)) (Yes.some ⟨_,_,_,_,_,rfl,?_⟩)))))))))
 have h0:=byte v[0]; have h1:=byte v[1]; have h2:=byte v[2]; have h3:=byte v[3]
 rw [w64_id (n:=(20:Int) + _) (by omega) (by omega),w64_id (n:=(1:Int) + _) (by omega) (by omega),w64_id (n:=(10:Int) + (v[2].toNat:Int) % 91) (by omega) (by omega),w64_id (n:=(10:Int) + (v[3].toNat:Int) % 91) (by omega) (by omega),w64_id (n:=(1000:Int) * _) (by omega) (by omega),w64_id (n:=(100000:Int) + _) (by omega) (by omega)]
 omega
theorem s25t {t:BeamTake} (h:TkOk t):f12 t=some t:=by
 obtain ⟨r,s,a,b,u,rfl,_⟩:=h
 refine Yes.eq ?_
 unfold f12
 exact Yes.bind (Yes.apnd (by simp) (by simp) (Yes.some rfl))
theorem mul_rng {a b A B:Int} (ha:0 ≤ a∧a ≤ A) (hb:0 ≤ b∧b ≤ B):0 ≤ a * b∧a * b ≤ A * B:=⟨Int.mul_nonneg ha.1 hb.1,Int.mul_le_mul ha.2 hb.2 hb.1 (by omega)⟩
theorem mul_lo {a b A B:Int} (ha:A ≤ a) (hb:B ≤ b) (hA:0 ≤ A) (hB:0 ≤ B):A * B ≤ a * b:=Int.mul_le_mul ha hb hB (by omega)
theorem s20t {t : BeamTake} (h : TkOk t) : Yes (f10 t) (fun r => (1000000 ≤ r.1 ∧ r.1 ≤ 177500000) ∧ (200 ≤ r.2 ∧ r.2 ≤ 10000) ∧
  ∃ a b,t.Pairs=[⟨a,b⟩]∧r.1=t.Round * t.Step * a∧r.2=t.Ratchet * b):=by
 obtain ⟨r,s,a,b,u,rfl,hr,hs,ha,hb,hu⟩:=h
 unfold f10
 refine qbind _ (qidx (i:=0) (by simp)) (qbind _ (qidx (i:=0) (by simp)) (Yes.some ?_))
 simp only [List.getElem_cons_zero]
 have e1:=mul_rng (a:=u) (b:=s) (A:=355000) (B:=5) ⟨by omega,by omega⟩ ⟨by omega,by omega⟩
 have e2:=mul_rng (a:=u * s) (b:=a) (A:=1775000) (B:=100) ⟨e1.1,by omega⟩ ⟨by omega,by omega⟩
 have e3:=mul_rng (a:=r) (b:=b) (A:=100) (B:=100) ⟨by omega,by omega⟩ ⟨by omega,by omega⟩
 have l1:=mul_lo (a:=u) (b:=s) (A:=100000) (B:=1) (by omega) (by omega) (by omega) (by omega)
 have l2:=mul_lo (a:=u * s) (b:=a) (A:=100000) (B:=10) (by omega) (by omega) (by omega) (by omega)
 have l3:=mul_lo (a:=r) (b:=b) (A:=20) (B:=10) (by omega) (by omega) (by omega) (by omega)
 rw [w64_id (n:=u * s) (by omega) (by omega),w64_id (n:=u * s * a) (by omega) (by omega),w64_id (n:=r * b) (by omega) (by omega)]
 exact ⟨by omega,by omega,a,b,rfl,rfl,rfl⟩
theorem s79t {t:BeamTake} (h:TkOk t):f22 t=some 0:=by
 obtain ⟨r,s,a,b,u,rfl,hr,hs,ha,hb,hu⟩:=h
 refine Yes.eq ?_
 unfold f22
 have t1:∀ x y z:Int,x ≤ z→z ≤ y→(([z]:List Int).all (btw x y))=true:=fun x y z h1 h2=>by simp [btw_iff,h1,h2]
 refine Yes.jn (qskip (by simp) (Yes.bind ?_))
 refine qbind _ (b154 _ (by simp)) ?_
 rw [t1 1 100 r (by omega) (by omega)]
 refine qskip rfl (qbind _ (b155 _ _ _ (by simp)) ?_)
 rw [t1 1 5 s (by omega) (by omega)]
 refine qskip rfl (qbind _ (b155 _ _ _ (by simp)) ?_)
 rw [t1 1 500000 u (by omega) (by omega)]
 refine qskip rfl (qbind _ (b156 _ _ (fun p=>!(([p.Driver,p.Driven]:List Int).all (btw 1 100))) (by simp) fun p _=>?_) (Yes.some (qskip ?_ (Yes.some rfl))))
 ·unfold f52; rw [b154 _ (by simp)]; rfl
 ·have : btw 1 100 a = true := btw_iff.2 (by omega)
  have h2:btw 1 100 b=true:=btw_iff.2 (by omega)
  simp [this,h2]
theorem gcd_mod {a b:Int} (ha:0 ≤ a) (hb:0 < b):Int.gcd b (a % b)=Int.gcd a b:=by
 obtain ⟨x,rfl⟩:=Int.eq_ofNat_of_zero_le ha
 obtain ⟨y,rfl⟩:=Int.eq_ofNat_of_zero_le (show 0 ≤ b by omega)
 show Nat.gcd y (x % y)=Nat.gcd x y
 rw [Nat.gcd_comm y,← Nat.gcd_rec,Nat.gcd_comm]
theorem s157 {n d:Int} (hn:0 < n∧n ≤ 9223372036854775807) (hd:0 < d∧d ≤ 9223372036854775807):Yes (f58 ⟨⟨n,d⟩⟩) (fun r=>∃ g:Int,0 < g∧n=g * r.Ratio.Num∧d=g * r.Ratio.Den∧0 < r.Ratio.Num∧0 < r.Ratio.Den):=by
 unfold f58
 refine Yes.bind (Yes.lp (fun s=>0 < s.1∧0 ≤ s.2∧s.2 ≤ 9223372036854775807∧Int.gcd s.1 s.2=Int.gcd n d) (fun s=>s.2.toNat) ⟨hn.1,by show (0:Int) ≤ d; omega,hd.2,rfl⟩ (by show d.toNat < _; omega) ?_)
 rintro ⟨a,b⟩ k ⟨h1,h2,h3,h4⟩ hk
 simp only at h1 h2 h3 h4
 refine Yes.jn (Yes.cond (fun hc=>?_) (fun hc=>Yes.some ?_))
 ·have hb : 0 < b := of_decide_eq_true hc
  refine qbind _ (rem_nn (by omega) hb) (hk _ ⟨hb,Int.emod_nonneg _ (by omega),by have:=Int.emod_lt_of_pos a hb; show a % b ≤ _; omega,?_⟩ ?_)
  ·rw [← h4]
   exact gcd_mod (by omega) hb
  ·show (a % b).toNat < b.toNat
   have:=Int.emod_lt_of_pos a hb
   have:=Int.emod_nonneg a (show b ≠ 0 by omega)
   omega
 ·have hb : b = 0 := by have : ¬ b > 0 := of_decide_eq_false hc; omega
  subst hb
  have ha:a=(Int.gcd n d:Int):=by rw [← h4,Int.gcd_zero_right]; omega
  have d1:a ∣ n:=by rw [ha]; exact Int.gcd_dvd_left ..
  have d2:a ∣ d:=by rw [ha]; exact Int.gcd_dvd_right ..
  have q1:0 < n / a:=Int.ediv_pos_of_pos_of_dvd hn.1 (by omega) d1
  have q2:0 < d / a:=Int.ediv_pos_of_pos_of_dvd hd.1 (by omega) d2
  exact qbind _ (quo_nn (by show (0:Int) ≤ n; omega) hn.2 h1) (qbind _ (quo_nn (by show (0:Int) ≤ d; omega) hd.2 h1) (Yes.some ⟨a,h1,(Int.mul_ediv_cancel' d1).symm,(Int.mul_ediv_cancel' d2).symm,q1,q2⟩))
theorem s81t {t : BeamTake} (h : TkOk t) {n d : Int} (hn : 1000000 ≤ n ∧ n ≤ 177500000) (hd : 200 ≤ d ∧ d ≤ 10000) (hp : ∃ a b, t.Pairs = [⟨a, b⟩] ∧ n = t.Round * t.Step * a ∧ d = t.Ratchet * b) :
  Yes (f25 t) (fun r=>∃ g:Int,0 < g∧n=g * r.Ratio.Num∧d=g * r.Ratio.Den∧0 < r.Ratio.Num∧0 < r.Ratio.Den):=by
 obtain ⟨a',b',hp,hn',hd'⟩:=hp
 obtain ⟨r,s,a,b,u,rfl,hr,hs,ha,hb,hu⟩:=h
 obtain ⟨⟨rfl,rfl⟩,_⟩:(a=a'∧b=b')∧True:=by simpa using hp
 have e1:=mul_rng (a:=u) (b:=s) (A:=355000) (B:=5) ⟨by omega,by omega⟩ ⟨by omega,by omega⟩
 simp only at hn' hd'
 unfold f25
 refine Yes.bind (Yes.upto 1 (by omega) (fun i (x:BeamRatio)=>x=if i=0 then ⟨⟨u * s,r⟩⟩ else ⟨⟨n,d⟩⟩) ?_ (fun i x k hi hx hk=>?_) (fun x k hx=>?_))
 ·rw [if_pos rfl,w64_id (n:=u * s) (by omega) (by omega)]
 ·obtain rfl : i = 0 := by omega
  rw [if_pos rfl] at hx
  subst hx
  refine qtake rfl (Yes.bind (qbind _ (qidx (i:=0) (by simp)) (Yes.some (hk _ ?_))))
  rw [if_neg (by omega)]
  simp only [List.getElem_cons_zero]
  rw [← hn',← hd',w64_id (n:=n) (by omega) (by omega),w64_id (n:=d) (by omega) (by omega)]
 ·rw [if_neg (by omega)] at hx
  subst hx
  exact qskip rfl (Yes.some (Yes.bind ((s157 (n:=n) (d:=d) ⟨by omega,by omega⟩ ⟨by omega,by omega⟩).mono fun y hy=>Yes.some hy)))
theorem s24t {t : BeamTake} (h : TkOk t) {n d : Int} (hn : 1000000 ≤ n ∧ n ≤ 177500000) (hd : 200 ≤ d ∧ d ≤ 10000) (hp : ∃ a b, t.Pairs = [⟨a, b⟩] ∧ n = t.Round * t.Step * a ∧ d = t.Ratchet * b) {m : Int} (hm : 0 ≤ m ∧ m ≤ 180) :
  f13 t ((m * n + d - 1) / d)=some (m,0):=by
 refine Yes.eq ?_
 have e1:=mul_rng (a:=m) (b:=n) (A:=180) (B:=177500000) hm ⟨by omega,hn.2⟩
 have q0:0 ≤ (m * n + d - 1) / d:=Int.ediv_nonneg (by omega) (by omega)
 have q1:(m * n + d - 1) / d ≤ 159750049:=by
  refine Int.le_trans (Int.ediv_le_ediv (by omega) (show m * n + d - 1 ≤ 31950000000 + d - 1 by omega)) ?_
  have:31950000000 + d - 1 < 159750050 * d:=by omega
  have:=Int.ediv_lt_of_lt_mul (by omega) this
  omega
 have q2:=Int.mul_ediv_add_emod (m * n + d - 1) d
 have q3:=Int.emod_nonneg (m * n + d - 1) (show d ≠ 0 by omega)
 have q4:=Int.emod_lt_of_pos (m * n + d - 1) (show 0 < d by omega)
 generalize hL:(m * n + d - 1) / d=L at *
 unfold f13
 refine Yes.jn (qbind _ (s79t h) (qskip rfl (Yes.jn ?_)))
 have hb:f27 [L]=some true:=by
  unfold f27; rw [b155 _ _ _ (by simp)]
  have:btw 0 10000000000 L=true:=btw_iff.2 (by omega)
  simp [this]
 refine qbind _ hb (qskip rfl (Yes.bind ((s81t h hn hd hp).mono fun y hy=>?_)))
 obtain ⟨g,hg,y1,y2,y3,y4⟩:=hy
 have gd:y.Ratio.Den ≤ d:=by
  have:=Int.mul_le_mul_of_nonneg_right (show 1 ≤ g by omega) (show 0 ≤ y.Ratio.Den by omega)
  omega
 have e2:=mul_rng (a:=L) (b:=y.Ratio.Den) (A:=159750049) (B:=10000) ⟨q0,by omega⟩ ⟨by omega,by omega⟩
 rw [w64_id (n:=L * y.Ratio.Den) (by omega) (by omega)]
 refine qbind _ (quo_nn e2.1 (by omega) y3) (Yes.some ?_)
 have:L * y.Ratio.Den / y.Ratio.Num=m:=by
  rw [← Int.mul_ediv_mul_of_pos (L * y.Ratio.Den) y.Ratio.Num hg,← y1,Int.mul_left_comm,← y2,Int.mul_comm L d]
  have A:m ≤ d * L / n:=Int.le_ediv_of_mul_le (by omega) (by omega)
  have B:d * L / n < m + 1:=Int.ediv_lt_of_lt_mul (by omega) (by rw [Int.add_mul]; omega)
  omega
 rw [this]
end Go.Proofs.YtbelgnbjkciafaaGreatDoor
