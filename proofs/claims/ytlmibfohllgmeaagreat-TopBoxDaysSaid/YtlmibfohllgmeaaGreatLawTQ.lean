/- TopBoxDays: the mill and its orders that are made out of bytes. -/
import Derived.Test.YtlmibfohllgmeaaGreatLawTB
set_option maxRecDepth 8000
namespace Go.Proofs.YtlmibfohllgmeaaGreat
open Go.RowKit
open Classical

theorem Fx {α:Type} {Q:α→Prop} {c:Bool} {X Y:Option α} (hc:c=false) (h:Yes Y Q):Yes (bif c then X else Y) Q:=by rw [hc]; exact h
theorem Cg {α:Type} {Q:α→Prop} {c:Bool} {X Y:Option α} (hc:c=true) (h:Yes X Q):Yes (bif c then X else Y) Q:=by rw [hc]; exact h
theorem Wm {α β:Type} {Q:β→Prop} {x:Option α} {f:α→Option β} (a:α) (h:x=some a) (k:Yes (f a) Q):Yes (x.bind f) Q:=by rw [h]; exact k
theorem zidx {α:Type} {xs:List α} {i:Nat} (h:i < xs.length):idx xs (i:Int)=some xs[i]:=by unfold idx; rw [if_pos (Int.natCast_nonneg i)]; exact List.getElem?_eq_getElem h
theorem zrem {a b:Int} (ha:0 ≤ a) (hb:0 < b):∃ r,Jw a b=some r∧0 ≤ r∧r < b:=by
 unfold Jw
 rw [if_neg (by omega),Int.tmod_eq_emod_of_nonneg ha]
 exact ⟨_,rfl,Int.emod_nonneg _ (by omega),Int.emod_lt_of_pos _ hb⟩
theorem zquo {a:Int} (ha:0 ≤ a) (h:a ≤ 1000):∃ q,Rd a 3=some q∧0 ≤ q:=by
 unfold Rd
 rw [if_neg (by decide),Int.tdiv_eq_ediv_of_nonneg ha]
 have h1:0 ≤ a / 3:=Int.ediv_nonneg ha (by decide)
 exact ⟨_,rfl,by rw [Ql (by omega) (by omega)]; exact h1⟩
theorem zw64 {n:Int} (h1:-1000000000000 ≤ n) (h2:n ≤ 1000000000000):w64 n=n:=Ql (by omega) (by omega)
theorem zu8 (c:UInt8):0 ≤ ((c.toNat:Nat):Int)∧((c.toNat:Nat):Int) ≤ 255:=by have:=c.toNat_lt; omega
theorem zapnd8 {xs:List Int} {y:Int} (h:xs.length ≤ 1000):apnd 8 xs [y]=some (xs ++ [y]):=Yes.eq (Yes.apnd (by simp; omega) (by simp; omega) rfl)
/-! ### Copies -/
theorem c13 (m:LoomMill) (h:m.Widths.length ≤ 1000):f13 m=some m:=by unfold f13; exact Yes.eq (Yes.bind (Yes.apnd (by simp; omega) (by simp; omega) (Yes.some (by simp))))
theorem c7 (l:List Gf) (h:l.length ≤ 1000):f7 l=some l:=by unfold f7; exact Yes.eq (Yes.bind (Yes.apnd (by simp; omega) (by simp; omega) (Yes.some (by simp))))
theorem c8 (l:List Int) (h:l.length ≤ 1000):f8 l=some l:=by unfold f8; exact Yes.eq (Yes.bind (Yes.apnd (by simp; omega) (by simp; omega) (Yes.some (by simp))))
/-! ### The mill and its orders -/
def sd (c : Int) (l : List Gf) : Nat → Int
 | 0=>0
 | j + 1=>sd c l j + (od l (j:Int)).Woven + c
structure Shed (c : Int) (w : Nat) (m : LoomMill) (l : List Gf) : Prop where
 hm:m=⟨List.replicate w 10,c⟩
 hw:1 ≤ w∧w ≤ 3
 hc:0 ≤ c∧c ≤ 3
 hn:l.length ≤ 6
 ho:∀ j:Nat,j < l.length→(1 ≤ (od l (j:Int)).Width∧(od l (j:Int)).Width ≤ 10)∧(0 ≤ (od l (j:Int)).Chain∧(od l (j:Int)).Chain ≤ 2)∧(1 ≤ (od l (j:Int)).Woven∧(od l (j:Int)).Woven ≤ 12)∧(od l (j:Int)).Early=0∧sd c l j + (od l (j:Int)).Woven ≤ (od l (j:Int)).Late∧(od l (j:Int)).Late ≤ 15 * j + 23
theorem Ou {c : Int} {l : List Gf} {x : Gf} : ∀ j, j ≤ l.length → sd c (l ++ [x]) j = sd c l j
 | 0,_=>rfl
 | j + 1,h=>by rw [sd,sd,Ou j (by omega),od_app (by omega),if_neg (by omega)]
theorem Pu {c : Int} (hc : 0 ≤ c ∧ c ≤ 3) {l : List Gf} (h : ∀ j : Nat, j < l.length → 1 ≤ (od l (j : Int)).Woven ∧ (od l (j : Int)).Woven ≤ 12) : ∀ j, j ≤ l.length → 0 ≤ sd c l j ∧ sd c l j ≤ 15 * j
 | 0,_=>⟨Int.le_refl _,Int.le_refl _⟩
 | j + 1,hj=>by
  have h1:=Pu hc h j (by omega)
  have h2:=h j (by omega)
  rw [sd]; omega
theorem shed_is (x0 x1:UInt8) (x2:List (Vector UInt8 3)):Yes (f6 x0 x1 x2) fun r=>∃ c w,Shed c w r.1 r.2:=by
 unfold f6
 obtain ⟨c0,hc0,hc1,hc2⟩:=zrem (a:=((x1.toNat:Nat):Int)) (b:=4) (by omega) (by omega)
 obtain ⟨k0,hk0,hk1,hk2⟩:=zrem (a:=((x0.toNat:Nat):Int)) (b:=3) (by omega) (by omega)
 obtain ⟨K,rfl⟩:=Int.eq_ofNat_of_zero_le hk1
 refine Wm c0 hc0 (Yes.bind (Yes.mono (Q':=fun m=>m=(⟨List.replicate (K + 1) 10,c0⟩:LoomMill)) ?_ fun m hm=>?_))
 ·refine Yes.upto (σ := LoomMill) (K + 1) (by omega) (fun i m => m = ⟨List.replicate i 10, c0⟩) rfl (fun i m k hi hI hk => ?_) (fun m k hI => ?_)
  ·subst hI
   refine Yes.jn (Wm _ hk0 (Cg (decide_eq_true (by omega)) ?_))
   refine Yes.bind (Wm _ (zapnd8 (by simp; omega)) (Yes.some (hk _ ?_)))
   rw [List.replicate_succ']
  ·subst hI
   exact Yes.jn (Wm _ hk0 (Fx (decide_eq_false (by omega)) (Yes.some rfl)))
 subst hm
 have hcc:0 ≤ c0∧c0 ≤ 3:=by omega
 refine Yes.bind (Yes.mono (Q':=Shed c0 (K + 1) ⟨List.replicate (K + 1) 10,c0⟩) ?_ fun l hl=>Yes.some ⟨c0,K + 1,hl⟩)
 refine Yes.rng (fun (s:List Gf × Int) i=>(s.1,s.2,(i:Int))) 0 6 (fun i s=>s.1.length=i∧s.2=sd c0 s.1 i∧Shed c0 (K + 1) ⟨List.replicate (K + 1) 10,c0⟩ s.1) ([],0) rfl (by omega) (by omega) ⟨rfl,rfl,rfl,by omega,hcc,by simp,fun j hj=>by simp at hj⟩ (fun i s k _ hi hI hk=>?_) (fun s k hI=>?_)
 ·obtain ⟨l, day⟩ := s
  obtain ⟨h1,h2,h3⟩:=hI
  simp only at h1 h2 h3
  refine Yes.jn ?_
  by_cases hx:i < x2.length
  ·refine Wm true (by rw [decide_eq_true (Int.ofNat_lt.2 hx), decide_eq_true (show (i : Int) < 6 by omega)]; rfl) (Cg rfl ?_)
   have hv:∀ (q:Nat) (h:q < 3),idx (x2[i]).toList (q:Int)=some ((x2[i]).toList[q]'(by simp; omega)):=fun q h=>zidx (by simp; omega)
   obtain ⟨a,ha,ha0,ha1⟩:=zrem (a:=(((x2[i]).toList[0]'(by simp)).toNat:Int)) (b:=10) (by omega) (by omega)
   obtain ⟨b,hb,hb0,hb1⟩:=zrem (a:=(((x2[i]).toList[1]'(by simp)).toNat:Int)) (b:=3) (by omega) (by omega)
   obtain ⟨c,hc,hd0,hd1⟩:=zrem (a:=(((x2[i]).toList[2]'(by simp)).toNat:Int)) (b:=12) (by omega) (by omega)
   obtain ⟨q,hq,hq0⟩:=zquo (a:=(((x2[i]).toList[1]'(by simp)).toNat:Int)) (by omega) (by have:=zu8 ((x2[i]).toList[1]'(by simp)); omega)
   obtain ⟨e,he,he0,he1⟩:=zrem (a:=q) (b:=9) hq0 (by omega)
   have hsd:=Pu hcc (l:=l) (fun j hj=>(h3.ho j hj).2.2.1) i (by omega)
   refine Yes.bind (Wm _ (zidx hx) (Wm _ (hv 0 (by omega)) (Wm _ ha (Wm _ (zidx hx) (Wm _ (hv 1 (by omega)) (Wm _ hb (Wm _ (zidx hx) (Wm _ (hv 2 (by omega)) (Wm _ hc (Wm _ (zidx hx) (Wm _ (hv 1 (by omega)) (Wm _ hq (Wm _ he (Wm _ (apnd40 (xs:=l) (by omega)) (Yes.some ?_)))))))))))))))
   have e1:w64 (1 + a)=1 + a:=zw64 (by omega) (by omega)
   have e2:w64 (1 + c)=1 + c:=zw64 (by omega) (by omega)
   have e3:w64 (1 + c + c0)=1 + c + c0:=zw64 (by omega) (by omega)
   have e4:w64 (day + (1 + c + c0))=day + (1 + c + c0):=zw64 (by omega) (by omega)
   have e5:w64 (day + (1 + c + c0) + e)=day + (1 + c + c0) + e:=zw64 (by omega) (by omega)
   have e6:w64 ((i:Int) + 1)=((i + 1:Nat):Int):=by rw [zw64 (by omega) (by omega)]; omega
   dsimp only
   rw [e1,e2,e3,e4,e5,e6]
   have hat:od (l ++ [⟨1 + a,b,1 + c,0,day + (1 + c + c0) + e⟩]) ((l.length:Nat):Int)=⟨1 + a,b,1 + c,0,day + (1 + c + c0) + e⟩:=by rw [od_app (Nat.le_refl _),if_pos rfl]
   refine hk (_,_) ⟨by simp [h1],?_,rfl,by omega,hcc,by simp; omega,fun j hj=>?_⟩
   ·simp only
    rw [sd,Ou i (by omega),← h2,← h1,hat]
    simp only; omega
   ·have hj' : j < l.length + 1 := by simpa using hj
    by_cases hjl:j=l.length
    ·subst hjl
     simp only
     rw [hat,Ou _ (Nat.le_refl _)]
     have hsd':=hsd
     rw [← h1] at hsd' h2
     simp only
     refine ⟨⟨?_,?_⟩,⟨hb0,?_⟩,⟨?_,?_⟩,trivial,?_,?_⟩
     ·omega
     ·omega
     ·omega
     ·omega
     ·omega
     ·omega
     ·omega
    ·simp only
     rw [od_app (by omega),if_neg hjl,Ou j (by omega)]
     exact h3.ho j (by omega)
  ·refine Wm false (by rw [decide_eq_false (show ¬ (i:Int) < (x2.length:Int) by omega)]; rfl) (Fx rfl (Yes.some h3))
 ·refine Yes.jn (Wm false ?_ (Fx rfl (Yes.some hI.2.2)))
  cases decide (((6:Nat):Int) < (x2.length:Int)) <;> rfl
section
variable {c:Int} {w:Nat} {m:LoomMill} {l:List Gf}
theorem shed_ok (h:Shed c w m l):Dp m l=0:=by
 have hn:=h.hn
 have hm:=h.hm
 have hw:=h.hw
 have hc:=h.hc
 subst hm
 unfold Dp
 rw [if_neg (by simp; omega),if_pos]
 refine ⟨by simp; omega,List.all_eq_true.2 fun x hx=>by rw [(List.mem_replicate.1 hx).2]; decide,Xa.2 (by simp only; omega),List.all_eq_true.2 fun x hx=>?_⟩
 obtain ⟨i,hi,he⟩:=List.getElem_of_mem hx
 have hx2:od l (i:Int)=x:=by unfold od; simp [he,hi]
 have:=h.ho i hi
 rw [← hx2]
 simp only [Xv,Bool.and_eq_true,Xa]
 have hs:=Pu hc (l:=l) (fun j hj=>(h.ho j hj).2.2.1) i (by omega)
 omega
end
theorem pub_shop_ok:f15=some true:=by kernel_rfl
end Go.Proofs.YtlmibfohllgmeaaGreat
