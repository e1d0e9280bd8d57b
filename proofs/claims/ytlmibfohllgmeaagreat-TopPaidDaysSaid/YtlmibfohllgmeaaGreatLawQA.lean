/- The mill, its orders and the prices that are made out of bytes. -/
import Derived.Test.YtlmibfohllgmeaaGreatLmQ2
import Derived.Test.YtlmibfohllgmeaaGreatPyQ1
import Derived.Test.YtlmibfohllgmeaaGreatShQ1
set_option maxRecDepth 8000
namespace Go.Proofs.YtlmibfohllgmeaaGreat
open Go.RowKit
open Classical

theorem zskip {α:Type} {Q:α→Prop} {c:Bool} {X Y:Option α} (hc:c=false) (h:Yes Y Q):Yes (bif c then X else Y) Q:=by rw [hc]; exact h
theorem ztake {α:Type} {Q:α→Prop} {c:Bool} {X Y:Option α} (hc:c=true) (h:Yes X Q):Yes (bif c then X else Y) Q:=by rw [hc]; exact h
theorem zbind {α β:Type} {Q:β→Prop} {x:Option α} {f:α→Option β} (a:α) (h:x=some a) (k:Yes (f a) Q):Yes (x.bind f) Q:=by rw [h]; exact k
theorem zidx {α:Type} {xs:List α} {i:Nat} (h:i < xs.length):idx xs (i:Int)=some xs[i]:=by unfold idx; rw [if_pos (Int.natCast_nonneg i)]; exact List.getElem?_eq_getElem h
theorem zrem {a b:Int} (ha:0 ≤ a) (hb:0 < b):∃ r,rem64 a b=some r∧0 ≤ r∧r < b:=by
 unfold rem64
 rw [if_neg (by omega),Int.tmod_eq_emod_of_nonneg ha]
 exact ⟨_,rfl,Int.emod_nonneg _ (by omega),Int.emod_lt_of_pos _ hb⟩
theorem zquo {a:Int} (ha:0 ≤ a) (h:a ≤ 1000):∃ q,quo64 a 3=some q∧0 ≤ q:=by
 unfold quo64
 rw [if_neg (by decide),Int.tdiv_eq_ediv_of_nonneg ha]
 have h1:0 ≤ a / 3:=Int.ediv_nonneg ha (by decide)
 exact ⟨_,rfl,by rw [w64_id (by omega) (by omega)]; exact h1⟩
theorem zw64 {n:Int} (h1:-1000000000000 ≤ n) (h2:n ≤ 1000000000000):w64 n=n:=w64_id (by omega) (by omega)
theorem zu8 (c:UInt8):0 ≤ ((c.toNat:Nat):Int)∧((c.toNat:Nat):Int) ≤ 255:=by have:=c.toNat_lt; omega
theorem zapnd8 {xs:List Int} {y:Int} (h:xs.length ≤ 1000):apnd 8 xs [y]=some (xs ++ [y]):=Yes.eq (Yes.apnd (by simp; omega) (by simp; omega) rfl)
/-! ### Copies -/
theorem c13 (m:LoomMill) (h:m.Widths.length ≤ 1000):f13 m=some m:=by unfold f13; exact Yes.eq (Yes.bind (Yes.apnd (by simp; omega) (by simp; omega) (Yes.some (by simp))))
theorem c7 (l:List LoomOrder) (h:l.length ≤ 1000):f7 l=some l:=by unfold f7; exact Yes.eq (Yes.bind (Yes.apnd (by simp; omega) (by simp; omega) (Yes.some (by simp))))
theorem c8 (l:List Int) (h:l.length ≤ 1000):f8 l=some l:=by unfold f8; exact Yes.eq (Yes.bind (Yes.apnd (by simp; omega) (by simp; omega) (Yes.some (by simp))))
theorem c19 (l:PayList) (h1:l.Rates.length ≤ 1000) (h2:l.Extras.length ≤ 1000):f19 l=some l:=by
 unfold f19
 exact Yes.eq (Yes.bind (Yes.apnd (by simp; omega) (by simp; omega) (Yes.bind (Yes.apnd (by simp; omega) (by simp; omega) (Yes.some (by simp))))))
/-! ### The mill and its orders -/
def sd (c : Int) (l : List LoomOrder) : Nat → Int
 | 0=>0
 | j + 1=>sd c l j + (od l (j:Int)).Woven + c
structure Shed (c : Int) (w : Nat) (m : LoomMill) (l : List LoomOrder) : Prop where
 hm:m=⟨List.replicate w 10,c⟩
 hw:1 ≤ w∧w ≤ 3
 hc:0 ≤ c∧c ≤ 3
 hn:l.length ≤ 6
 ho:∀ j:Nat,j < l.length→(1 ≤ (od l (j:Int)).Width∧(od l (j:Int)).Width ≤ 10)∧(0 ≤ (od l (j:Int)).Chain∧(od l (j:Int)).Chain ≤ 2)∧(1 ≤ (od l (j:Int)).Woven∧(od l (j:Int)).Woven ≤ 12)∧(od l (j:Int)).Early=0∧sd c l j + (od l (j:Int)).Woven ≤ (od l (j:Int)).Late∧(od l (j:Int)).Late ≤ 15 * j + 23
theorem sd_app {c : Int} {l : List LoomOrder} {x : LoomOrder} : ∀ j, j ≤ l.length → sd c (l ++ [x]) j = sd c l j
 | 0,_=>rfl
 | j + 1,h=>by rw [sd,sd,sd_app j (by omega),od_app (by omega),if_neg (by omega)]
theorem sd_bound {c : Int} (hc : 0 ≤ c ∧ c ≤ 3) {l : List LoomOrder} (h : ∀ j : Nat, j < l.length → 1 ≤ (od l (j : Int)).Woven ∧ (od l (j : Int)).Woven ≤ 12) : ∀ j, j ≤ l.length → 0 ≤ sd c l j ∧ sd c l j ≤ 15 * j
 | 0,_=>⟨Int.le_refl _,Int.le_refl _⟩
 | j + 1,hj=>by
  have h1:=sd_bound hc h j (by omega)
  have h2:=h j (by omega)
  rw [sd]; omega
theorem shed_is (x0 x1:UInt8) (x2:List (Vector UInt8 3)):Yes (f6 x0 x1 x2) fun r=>∃ c w,Shed c w r.1 r.2:=by
 unfold f6
 obtain ⟨c0,hc0,hc1,hc2⟩:=zrem (a:=((x1.toNat:Nat):Int)) (b:=4) (by omega) (by omega)
 obtain ⟨k0,hk0,hk1,hk2⟩:=zrem (a:=((x0.toNat:Nat):Int)) (b:=3) (by omega) (by omega)
 obtain ⟨K,rfl⟩:=Int.eq_ofNat_of_zero_le hk1
 refine zbind c0 hc0 (Yes.bind (Yes.mono (Q':=fun m=>m=(⟨List.replicate (K + 1) 10,c0⟩:LoomMill)) ?_ fun m hm=>?_))
 ·refine Yes.upto (σ := LoomMill) (K + 1) (by omega) (fun i m => m = ⟨List.replicate i 10, c0⟩) rfl (fun i m k hi hI hk => ?_) (fun m k hI => ?_)
  ·subst hI
   refine Yes.jn (zbind _ hk0 (ztake (decide_eq_true (by omega)) ?_))
   refine Yes.bind (zbind _ (zapnd8 (by simp; omega)) (Yes.some (hk _ ?_)))
   rw [List.replicate_succ']
  ·subst hI
   exact Yes.jn (zbind _ hk0 (zskip (decide_eq_false (by omega)) (Yes.some rfl)))
 subst hm
 have hcc:0 ≤ c0∧c0 ≤ 3:=by omega
 refine Yes.bind (Yes.mono (Q':=Shed c0 (K + 1) ⟨List.replicate (K + 1) 10,c0⟩) ?_ fun l hl=>Yes.some ⟨c0,K + 1,hl⟩)
 refine Yes.rng (fun (s:List LoomOrder × Int) i=>(s.1,s.2,(i:Int))) 0 6 (fun i s=>s.1.length=i∧s.2=sd c0 s.1 i∧Shed c0 (K + 1) ⟨List.replicate (K + 1) 10,c0⟩ s.1) ([],0) rfl (by omega) (by omega) ⟨rfl,rfl,rfl,by omega,hcc,by simp,fun j hj=>by simp at hj⟩ (fun i s k _ hi hI hk=>?_) (fun s k hI=>?_)
 ·obtain ⟨l, day⟩ := s
  obtain ⟨h1,h2,h3⟩:=hI
  simp only at h1 h2 h3
  refine Yes.jn ?_
  by_cases hx:i < x2.length
  ·refine zbind true (by rw [decide_eq_true (Int.ofNat_lt.2 hx), decide_eq_true (show (i : Int) < 6 by omega)]; rfl) (ztake rfl ?_)
   have hv:∀ (q:Nat) (h:q < 3),idx (x2[i]).toList (q:Int)=some ((x2[i]).toList[q]'(by simp; omega)):=fun q h=>zidx (by simp; omega)
   obtain ⟨a,ha,ha0,ha1⟩:=zrem (a:=(((x2[i]).toList[0]'(by simp)).toNat:Int)) (b:=10) (by omega) (by omega)
   obtain ⟨b,hb,hb0,hb1⟩:=zrem (a:=(((x2[i]).toList[1]'(by simp)).toNat:Int)) (b:=3) (by omega) (by omega)
   obtain ⟨c,hc,hd0,hd1⟩:=zrem (a:=(((x2[i]).toList[2]'(by simp)).toNat:Int)) (b:=12) (by omega) (by omega)
   obtain ⟨q,hq,hq0⟩:=zquo (a:=(((x2[i]).toList[1]'(by simp)).toNat:Int)) (by omega) (by have:=zu8 ((x2[i]).toList[1]'(by simp)); omega)
   obtain ⟨e,he,he0,he1⟩:=zrem (a:=q) (b:=9) hq0 (by omega)
   have hsd:=sd_bound hcc (l:=l) (fun j hj=>(h3.ho j hj).2.2.1) i (by omega)
   refine Yes.bind (zbind _ (zidx hx) (zbind _ (hv 0 (by omega)) (zbind _ ha (zbind _ (zidx hx) (zbind _ (hv 1 (by omega)) (zbind _ hb (zbind _ (zidx hx) (zbind _ (hv 2 (by omega)) (zbind _ hc (zbind _ (zidx hx) (zbind _ (hv 1 (by omega)) (zbind _ hq (zbind _ he (zbind _ (apnd40 (xs:=l) (by omega)) (Yes.some ?_)))))))))))))))
   have e1:w64 (1 + a)=1 + a:=zw64 (by omega) (by omega)
   have e2:w64 (1 + c)=1 + c:=zw64 (by omega) (by omega)
   have e3:w64 (1 + c + c0)=1 + c + c0:=zw64 (by omega) (by omega)
   have e4:w64 (day + (1 + c + c0))=day + (1 + c + c0):=zw64 (by omega) (by omega)
   have e5:w64 (day + (1 + c + c0) + e)=day + (1 + c + c0) + e:=zw64 (by omega) (by omega)
   have e6:w64 ((i:Int) + 1)=((i + 1:Nat):Int):=by rw [zw64 (by omega) (by omega)]; omega
   dsimp only
   rw [e1,e2,e3,e4,e5,e6]
   have hat:od (l ++ [⟨1 + a,b,1 + c,0,day + (1 + c + c0) + e⟩]) ((l.length:Nat):Int)=⟨1 + a,b,1 + c,0,day + (1 + c + c0) + e⟩:=by rw [od_app (Nat.le_refl _),if_pos rfl]
   refine hk (_,_) ⟨by simp [h1],?_,rfl,by omega,hcc,by simp; omega,fun j hj=>?_⟩
   ·simp only
    rw [sd,sd_app i (by omega),← h2,← h1,hat]
    simp only; omega
   ·have hj' : j < l.length + 1 := by simpa using hj
    by_cases hjl:j=l.length
    ·subst hjl
     simp only
     rw [hat,sd_app _ (Nat.le_refl _)]
     have hsd':=hsd
     rw [← h1] at hsd' h2
     simp only
     refine ⟨⟨?_,?_⟩,⟨hb0,?_⟩,⟨?_,?_⟩,trivial,?_,?_⟩
     ·omega
     ·omega
     ·omega
     ·omega
     ·omega
     ·omega
     ·omega
    ·simp only
     rw [od_app (by omega),if_neg hjl,sd_app j (by omega)]
     exact h3.ho j (by omega)
  ·refine zbind false (by rw [decide_eq_false (show ¬ (i:Int) < (x2.length:Int) by omega)]; rfl) (zskip rfl (Yes.some h3))
 ·refine Yes.jn (zbind false ?_ (zskip rfl (Yes.some hI.2.2)))
  cases decide (((6:Nat):Int) < (x2.length:Int)) <;> rfl
section
variable {c:Int} {w:Nat} {m:LoomMill} {l:List LoomOrder}
theorem shed_ok (h:Shed c w m l):chkE m l=0:=by
 have hn:=h.hn
 have hm:=h.hm
 have hw:=h.hw
 have hc:=h.hc
 subst hm
 unfold chkE
 rw [if_neg (by simp; omega),if_pos]
 refine ⟨by simp; omega,List.all_eq_true.2 fun x hx=>by rw [(List.mem_replicate.1 hx).2]; decide,btw_iff.2 (by simp only; omega),List.all_eq_true.2 fun x hx=>?_⟩
 obtain ⟨i,hi,he⟩:=List.getElem_of_mem hx
 have hx2:od l (i:Int)=x:=by unfold od; simp [he,hi]
 have:=h.ho i hi
 rw [← hx2]
 simp only [ordOk,Bool.and_eq_true,btw_iff]
 have hs:=sd_bound hc (l:=l) (fun j hj=>(h.ho j hj).2.2.1) i (by omega)
 omega
theorem shed_cpl (h:Shed c w m l):Cpl m l []:=by
 have hm:=h.hm
 have hw:=h.hw
 have hc:=h.hc
 have hup:∀ d i:Nat,i + d < l.length→sd c l i + (od l (i:Int)).Woven + c ≤ sd c l (i + d + 1):=fun d=>by
  induction d with
  | zero=>intro i _; rw [Nat.add_zero,sd]; omega
  | succ d ih=>
   intro i hi
   have h1:=ih i (by omega)
   have h2:=(h.ho (i + d + 1) (by omega)).2.2.1
   rw [show i + (d + 1) + 1=(i + d + 1) + 1 by omega,sd]; omega
 refine ⟨fun _=>0,sd c l,fun i hi=>⟨hi,by rw [hm]; simp; omega,fun r hr=>(by cases hr),?_,?_,?_⟩,fun i j hi hj hne _ hle=>?_⟩
 ·have := (h.ho i hi).1
  have h0:wd m ((0:Nat):Int)=10:=by
   rw [hm]; unfold wd; obtain ⟨w',rfl⟩:∃ w',w=w' + 1:=⟨w - 1,by omega⟩; simp [List.replicate_succ]
  rw [h0]; omega
 ·have := (h.ho i hi).2.2.2.1
  have:=sd_bound hc (l:=l) (fun j hj=>(h.ho j hj).2.2.1) i (by omega)
  omega
 ·exact (h.ho i hi).2.2.2.2.1
 ·have hg : gap m l i j ≤ c := by unfold gap; rw [hm]; simp only; split <;> omega
  rcases Nat.lt_or_gt_of_ne hne with hlt | hlt
  ·have := hup (j - i - 1) i (by omega)
   rw [show i + (j - i - 1) + 1=j by omega] at this
   omega
  ·have := hup (i - j - 1) j (by omega)
   rw [show j + (i - j - 1) + 1=i by omega] at this
   have:=(h.ho j hj).2.2.1
   omega
end
/-! ### Prices -/
theorem prices_ok (v:Vector UInt8 4):Yes (f16 v) fun l=>LOkP l∧l.Extras=[]:=by
 have hv:∀ (q:Nat) (h:q < 4),idx v.toList (q:Int)=some (v.toList[q]'(by simp; omega)):=fun q h=>zidx (by simp; omega)
 unfold f16
 obtain ⟨a,ha,ha0,ha1⟩:=zrem (a:=((v.toList[1]'(by simp)).toNat:Int)) (b:=60) (by omega) (by omega)
 have b0:=zu8 (v.toList[0]'(by simp))
 have b1:=zu8 (v.toList[1]'(by simp))
 have b2:=zu8 (v.toList[2]'(by simp))
 have b3:=zu8 (v.toList[3]'(by simp))
 obtain ⟨b,hb,hb0,hb1⟩:=zrem (a:=w64 ((4:Int) * ((v.toList[1]'(by simp)).toNat:Int))) (b:=1001) (by rw [zw64 (by omega) (by omega)]; omega) (by omega)
 refine zbind _ (hv 0 (by omega)) (zbind _ (hv 1 (by omega)) (zbind _ ha (zbind _ (hv 0 (by omega)) (zbind _ (hv 2 (by omega)) (zbind _ (hv 3 (by omega)) (zbind _ (hv 1 (by omega)) (zbind _ hb (Yes.some ?_))))))))
 rw [zw64 (n:=1 + a) (by omega) (by omega),zw64 (n:=((v.toList[0]'(by simp)).toNat:Int) + ((v.toList[2]'(by simp)).toNat:Int)) (by omega) (by omega)]
 refine ⟨⟨⟨fun i hi=>?_,fun x hx=>(by cases hx),by simp,btw_iffP.2 ⟨by simp only; omega,by simp only; omega⟩,btw_iffP.2 ⟨by simp only; omega,by simp only; omega⟩⟩,by simp,by simp⟩,rfl⟩
 have hi':i < 2:=hi
 match i,hi' with
 | 0,_=>exact ⟨btw_iffP.2 ⟨by simp,by simp⟩,btw_iffP.2 ⟨by simp only [List.getElem_cons_zero]; omega,by simp only [List.getElem_cons_zero]; omega⟩,fun _=>rfl,fun h=>absurd h (Nat.lt_irrefl _)⟩
 | 1,_=>
  refine ⟨btw_iffP.2 ⟨?_,?_⟩,btw_iffP.2 ⟨?_,?_⟩,fun h=>absurd h (by decide),fun _=>?_⟩ <;> simp only [List.getElem_cons_succ,List.getElem_cons_zero,Nat.sub_self] <;> omega
end Go.Proofs.YtlmibfohllgmeaaGreat
