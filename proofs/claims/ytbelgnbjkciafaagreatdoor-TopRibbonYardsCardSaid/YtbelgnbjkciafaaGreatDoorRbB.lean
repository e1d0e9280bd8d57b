/- TopRibbonYards: the year, the beam. -/
import Derived.Test.YtbelgnbjkciafaaGreatDoorRbY1
set_option maxRecDepth 8000
namespace Go.Proofs.YtbelgnbjkciafaaGreatDoor
open Go.RowKit
open Classical
theorem pb14:f14=some true:=by kernel_rfl
theorem pb15:f15=some true:=by kernel_rfl
theorem s11t {t : BeamTake} (h : TkOk t) {n d : Int} (hn : 1000000 ≤ n ∧ n ≤ 177500000) (hd : 200 ≤ d ∧ d ≤ 10000) (hp : ∃ a b, t.Pairs = [⟨a, b⟩] ∧ n = t.Round * t.Step * a ∧ d = t.Ratchet * b) {m : Int} (hm : 1 ≤ m ∧ m ≤ 180) :
  f11 t ⟨0,0⟩ m=some (⟨m * n / d,m * n / d⟩,0):=by
 refine Yes.eq ?_
 unfold f11
 have h24:f24 1 100000 [m]=some true:=by
  rw [b155 _ _ _ (by simp)]
  have:btw 1 100000 m=true:=btw_iff.2 (by omega)
  simp [this]
 refine qbind _ (s79t h) (Yes.jn (qskip rfl (qbind _ (show f23 ⟨0,0⟩=some true by kernel_rfl) (qskip rfl (qbind _ h24 (qskip rfl (Yes.bind ((s81t h hn hd hp).mono fun y hy=>?_))))))))
 obtain ⟨g,hg,y1,y2,y3,y4⟩:=hy
 have gn:y.Ratio.Num ≤ n:=by
  have:=Int.mul_le_mul_of_nonneg_right (show 1 ≤ g by omega) (show 0 ≤ y.Ratio.Num by omega)
  omega
 have gd:y.Ratio.Den ≤ d:=by
  have:=Int.mul_le_mul_of_nonneg_right (show 1 ≤ g by omega) (show 0 ≤ y.Ratio.Den by omega)
  omega
 have e1:=mul_rng (a:=m) (b:=y.Ratio.Num) (A:=180) (B:=177500000) ⟨by omega,hm.2⟩ ⟨by omega,by omega⟩
 have hq:f26 y m 0=some (m * n / d):=by
  refine Yes.eq ?_
  unfold f26
  rw [w64_id (n:=m * y.Ratio.Num) (by omega) (by omega),show w64 ((1000:Int) - 0)=1000 from rfl,w64_id (n:=m * y.Ratio.Num * 1000) (by omega) (by omega),w64_id (n:=y.Ratio.Den * 1000) (by omega) (by omega)]
  refine qbind _ (quo_nn (by omega) (by omega) (by omega)) (Yes.some ?_)
  rw [Int.mul_ediv_mul_of_pos_left _ _ (by omega),y1,y2,Int.mul_left_comm m g,Int.mul_ediv_mul_of_pos _ _ hg]
 exact qbind _ hq (qbind _ hq (Yes.some rfl))
def YrOk (l:List BookCloth):Prop:=l.length ≤ 12∧l.Pairwise (fun a b=>a.Day < b.Day)∧∀ c ∈ l,(1 ≤ c.Day∧c.Day ≤ 600)∧(0 ≤ c.Loom∧c.Loom ≤ 2)∧c.Chain=0∧c.Tie=0∧1 ≤ c.Picks∧c.Picks ≤ 15
theorem s5y (by_:List (Vector UInt8 3)) (hb:by_.length ≤ 9223372036854775807):Yes (f5 by_) YrOk:=by
 have byte:∀ u:UInt8,(0:Int) ≤ (u.toNat:Int)∧(u.toNat:Int) ≤ 255:=fun u=>by have:=u.toNat_lt; omega
 unfold f5
 refine Yes.bind ?_
 refine Yes.mono (Q':=YrOk) ?_ fun l hl=>Yes.some hl
 refine Yes.upto2 (min by_.length 12) (by omega) (fun i zs d=>zs.length=i∧(0 ≤ d∧d ≤ 50 * (i:Int))∧(∀ c ∈ zs,c.Day ≤ d)∧zs.Pairwise (fun a b=>a.Day < b.Day)∧∀ c ∈ zs,(1 ≤ c.Day∧c.Day ≤ 600)∧(0 ≤ c.Loom∧c.Loom ≤ 2)∧c.Chain=0∧c.Tie=0∧1 ≤ c.Picks∧c.Picks ≤ 15) ⟨rfl,by simp,by simp,List.Pairwise.nil,by simp⟩ (fun i zs d k hi hI hk=>?_) (fun zs d k hI=>?_)
 ·obtain ⟨h1, h2, h3, h4, h5⟩ := hI
  refine Yes.jn (Yes.bind (Yes.cond (fun _=>Yes.some (qtake (decide_eq_true (by omega)) ?_)) (fun hc=>absurd (of_decide_eq_false hc) (by omega))))
  refine Yes.bind (qbind _ (qidx (by omega)) (qbind _ (vidx _ (i:=0) (by omega)) (qbind _ (rem_nn (byte _).1 (by omega)) (qbind _ (qidx (by omega)) (qbind _ (vidx _ (i:=1) (by omega)) (qbind _ (rem_nn (byte _).1 (by omega)) (qbind _ (qidx (by omega)) (qbind _ (vidx _ (i:=2) (by omega)) (qbind _ (rem_nn (byte _).1 (by omega)) (Yes.bind (Yes.apnd (by simp; omega) (by simp; omega) (Yes.some (hk _ _ ?_)))))))))))))
  have b0:=byte (by_[i]'(by omega))[0]
  have b1:=byte (by_[i]'(by omega))[1]
  have b2:=byte (by_[i]'(by omega))[2]
  generalize (((by_[i]'(by omega))[0]).toNat:Int)=u0 at *
  generalize (((by_[i]'(by omega))[1]).toNat:Int)=u1 at *
  generalize (((by_[i]'(by omega))[2]).toNat:Int)=u2 at *
  rw [w64_id (n:=(1:Int) + u0 % 50) (by omega) (by omega),w64_id (n:=d + (1 + u0 % 50)) (by omega) (by omega),w64_id (n:=(1:Int) + u2 % 15) (by omega) (by omega)]
  refine ⟨by simp [h1],by omega,fun c hc=>?_,?_,fun c hc=>?_⟩
  ·rcases List.mem_append.1 hc with hc | hc
   ·have:=h3 c hc; omega
   ·rw [List.mem_singleton.1 hc]; exact Int.le_refl _
  ·refine List.pairwise_append.2 ⟨h4, List.pairwise_singleton _ _, fun a ha b hb => ?_⟩
   rw [List.mem_singleton.1 hb]
   have:=h3 a ha
   show a.Day < d + (1 + u0 % 50)
   omega
  ·rcases List.mem_append.1 hc with hc | hc
   ·exact h5 c hc
   ·rw [List.mem_singleton.1 hc]
    exact ⟨⟨by show 1 ≤ d + (1 + u0 % 50); omega,by show d + (1 + u0 % 50) ≤ 600; omega⟩,⟨by show 0 ≤ u1 % 3; omega,by show u1 % 3 ≤ 2; omega⟩,rfl,rfl,by show 1 ≤ 1 + u2 % 15; omega,by show 1 + u2 % 15 ≤ 15; omega⟩
 ·obtain ⟨h1, h2, h3, h4, h5⟩ := hI
  have hY:YrOk zs:=⟨by omega,h4,h5⟩
  refine Yes.jn (Yes.bind (Yes.cond (fun hc=>Yes.some (qskip (decide_eq_false ?_) (Yes.some hY))) (fun _=>Yes.some (qskip rfl (Yes.some hY)))))
  have:=of_decide_eq_true hc
  omega
end Go.Proofs.YtbelgnbjkciafaaGreatDoor
/- TopRibbonYards: records and logs. -/
set_option maxRecDepth 8000
namespace Go.Proofs.YtbelgnbjkciafaaGreatDoor
open Go.RowKit
open Classical
def OkC (c:BookCloth):Prop:=(1 ≤ c.Day∧c.Day ≤ 600)∧(0 ≤ c.Loom∧c.Loom ≤ 2)∧c.Chain=0∧c.Tie=0∧1 ≤ c.Picks∧c.Picks ≤ 15
theorem b98 (x a b:Int):f98 x a b=some (!btw a b x):=by unfold f98 btw; by_cases h1:x < a <;> by_cases h2:x > b <;> simp [h1,h2] <;> omega
theorem b69 (a b:Int) (xs:List Int) (hl:xs.length < 9223372036854775807):f69 a b xs=some (xs.all (btw a b)):=by
 unfold f69
 rw [s103 xs _ (fun x=>!btw a b x) hl fun x _=>b98 x a b]
 simp [List.all_eq_not_any_not]
theorem s33v {c:BookCloth} (h:OkC c):f33 c=some true:=by
 obtain ⟨h1,h2,h3,h4,h5⟩:=h
 have t1:∀ x y z:Int,x ≤ z→z ≤ y→(([z]:List Int).all (btw x y))=true:=fun x y z h1 h2=>by simp [btw_iff,h1,h2]
 refine Yes.eq ?_
 unfold f33
 refine Yes.bind (qbind _ (b69 _ _ _ (by simp)) ?_)
 rw [t1 0 65535 c.Day (by omega) (by omega)]
 refine qtake rfl (qbind _ (b69 _ _ _ (by simp)) ?_)
 rw [t1 0 15 c.Loom (by omega) (by omega)]
 refine qtake rfl (qbind _ (b69 _ _ _ (by simp)) ?_)
 rw [h3,h4]
 refine qtake rfl (qbind _ (b69 _ _ _ (by simp)) ?_)
 rw [t1 1 60 c.Picks (by omega) (by omega)]
 exact Yes.some (Yes.some rfl)
def sm6 (a b c d e f:UInt8):UInt8:=0 + a + b + c + d + e + f
def pl6 (a b c d e f:UInt8):UInt8:=0 + u8w 1 * a + u8w 2 * b + u8w 3 * c + u8w 4 * d + u8w 5 * e + u8w 6 * f
theorem s72v (a b c d e f g h:UInt8):f72 ⟨#[a,b,c,d,e,f,g,h],rfl⟩=some (sm6 a b c d e f,pl6 a b c d e f):=by kernel_rfl
def recL (c:BookCloth):List UInt8:=[u8w (c.Day / 256),u8w c.Day,u8w c.Loom,u8w c.Chain,u8w c.Tie,u8w c.Picks,sm6 (u8w (c.Day / 256)) (u8w c.Day) (u8w c.Loom) (u8w c.Chain) (u8w c.Tie) (u8w c.Picks),pl6 (u8w (c.Day / 256)) (u8w c.Day) (u8w c.Loom) (u8w c.Chain) (u8w c.Tie) (u8w c.Picks)]
def recV (c:BookCloth):Vector UInt8 8:=⟨(recL c).toArray,rfl⟩
theorem s35v (c:BookCloth) (h:OkC c):f35 c=some (recV c):=by
 refine Yes.eq ?_
 unfold f35
 have h1:shr64 c.Day 8=some (c.Day / 256):=by
  unfold shr64
  rw [if_neg (by omega)]
  show some (c.Day.fdiv 256)=_
  rw [Int.fdiv_eq_ediv_of_nonneg _ (by omega)]
 exact qbind _ h1 (qbind _ (s72v _ _ _ _ _ _ _ _) (Yes.some rfl))
theorem u8w_n {n:Int} (h:0 ≤ n∧n ≤ 255):(((u8w n).toNat:Nat):Int)=n:=by
 unfold u8w
 have h1:n % 256=n:=Int.emod_eq_of_lt h.1 (by omega)
 rw [h1]
 have:(UInt8.ofNat n.toNat).toNat=n.toNat:=by simp; omega
 rw [this]; omega
theorem or_all:((List.range 601).all fun d=>bit64 .or (w64 ((((u8w ((d:Int) / 256)).toNat:Nat):Int) * 256)) (((u8w (d:Int)).toNat:Nat):Int) == (d:Int))=true:=by kernel_rfl
theorem or_day {d:Int} (h:1 ≤ d∧d ≤ 600):bit64 .or (w64 ((((u8w (d / 256)).toNat:Nat):Int) * 256)) (((u8w d).toNat:Nat):Int)=d:=by
 obtain ⟨n,rfl⟩:∃ n:Nat,d=n:=⟨d.toNat,by omega⟩
 have:=List.all_eq_true.1 or_all n (List.mem_range.2 (by omega))
 simpa using this
theorem s68v {c:BookCloth} (h:OkC c):f68 (recV c)=some (c,0):=by
 obtain ⟨d,l,ch,t,p⟩:=c
 have hv:=s33v h
 obtain ⟨h1,h2,h3,h4,h5⟩:=h
 simp only at h1 h2 h3 h4 h5
 subst h3 h4
 refine Yes.eq ?_
 unfold f68
 have i0:idx (recV ⟨d,l,0,0,p⟩).toList 0=some (u8w (d / 256)):=rfl
 have i1:idx (recV ⟨d,l,0,0,p⟩).toList 1=some (u8w d):=rfl
 have i2:idx (recV ⟨d,l,0,0,p⟩).toList 2=some (u8w l):=rfl
 have i3:idx (recV ⟨d,l,0,0,p⟩).toList 3=some (u8w 0):=rfl
 have i4:idx (recV ⟨d,l,0,0,p⟩).toList 4=some (u8w 0):=rfl
 have i5:idx (recV ⟨d,l,0,0,p⟩).toList 5=some (u8w p):=rfl
 have i6:idx (recV ⟨d,l,0,0,p⟩).toList 6=some (sm6 (u8w (d / 256)) (u8w d) (u8w l) (u8w 0) (u8w 0) (u8w p)):=rfl
 have i7:idx (recV ⟨d,l,0,0,p⟩).toList 7=some (pl6 (u8w (d / 256)) (u8w d) (u8w l) (u8w 0) (u8w 0) (u8w p)):=rfl
 have hs:∀ x:Int,shl64 x 8=some (w64 (x * 256)):=fun x=>rfl
 have h72:f72 (recV ⟨d,l,0,0,p⟩)=some (sm6 (u8w (d / 256)) (u8w d) (u8w l) (u8w 0) (u8w 0) (u8w p),pl6 (u8w (d / 256)) (u8w d) (u8w l) (u8w 0) (u8w 0) (u8w p)):=s72v _ _ _ _ _ _ _ _
 have e:(⟨bit64 .or (w64 ((((u8w (d / 256)).toNat:Nat):Int) * 256)) (((u8w d).toNat:Nat):Int),(((u8w l).toNat:Nat):Int),(((u8w 0).toNat:Nat):Int),(((u8w 0).toNat:Nat):Int),(((u8w p).toNat:Nat):Int)⟩:BookCloth)=⟨d,l,0,0,p⟩:=by
  rw [u8w_n (n:=l) (by omega),u8w_n (n:=p) (by omega),or_day h1]; rfl
 generalize recV ⟨d,l,0,0,p⟩=v at *
 refine qbind _ i0 (qbind _ (hs _) (qbind _ i1 (qbind _ i2 (qbind _ i3 (qbind _ i4 (qbind _ i5 (qbind _ h72 (Yes.jn ?_))))))))
 refine Yes.bind (Yes.mono (Q':=fun b=>b=false) ?_ fun b hb=>?_)
 ·exact qbind _ i6 (qskip (by simp) (qbind _ i7 (Yes.some (by simp))))
 ·subst hb
  refine qskip rfl ?_
  rw [e]
  exact qbind _ hv (qskip rfl (Yes.some rfl))
end Go.Proofs.YtbelgnbjkciafaaGreatDoor
