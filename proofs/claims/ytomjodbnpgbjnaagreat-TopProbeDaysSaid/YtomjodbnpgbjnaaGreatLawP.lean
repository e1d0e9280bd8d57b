/- The mill, the orders, the loom and the damages that are made out of bytes. -/
import Derived.Test.YtomjodbnpgbjnaaGreatLawM5
import Derived.Test.YtomjodbnpgbjnaaGreatLawF2
set_option maxRecDepth 8000
namespace Go.Proofs.YtomjodbnpgbjnaaGreat
open Go.RowKit
open Classical

theorem qskip {α:Type} {Q:α→Prop} {c:Bool} {X Y:Option α} (hc:c=false) (h:Yes Y Q):Yes (bif c then X else Y) Q:=by rw [hc]; exact h
theorem qtake {α:Type} {Q:α→Prop} {c:Bool} {X Y:Option α} (hc:c=true) (h:Yes X Q):Yes (bif c then X else Y) Q:=by rw [hc]; exact h
theorem qbind {α β:Type} {Q:β→Prop} {x:Option α} {f:α→Option β} (a:α) (h:x=some a) (k:Yes (f a) Q):Yes (x.bind f) Q:=by rw [h]; exact k
theorem qidx {α:Type} {xs:List α} {i:Nat} (h:i < xs.length):idx xs (i:Int)=some xs[i]:=by unfold idx; rw [if_pos (Int.natCast_nonneg i)]; exact List.getElem?_eq_getElem h
theorem qrem {a b:Int} (ha:0 ≤ a) (hb:0 < b):∃ r,rem64 a b=some r∧0 ≤ r∧r < b:=by
 unfold rem64
 rw [if_neg (by omega),Int.tmod_eq_emod_of_nonneg ha]
 exact ⟨_,rfl,Int.emod_nonneg _ (by omega),Int.emod_lt_of_pos _ hb⟩
theorem qquo {a:Int} (ha:0 ≤ a) (h:a ≤ 1000):∃ q,quo64 a 3=some q∧0 ≤ q:=by
 unfold quo64
 rw [if_neg (by decide),Int.tdiv_eq_ediv_of_nonneg ha]
 have h1:0 ≤ a / 3:=Int.ediv_nonneg ha (by decide)
 exact ⟨_,rfl,by rw [w64_id (by omega) (by omega)]; exact h1⟩
theorem qw64 {n:Int} (h1:-1000000000 ≤ n) (h2:n ≤ 1000000000):w64 n=n:=w64_id (by omega) (by omega)
theorem qu8 (c:UInt8):0 ≤ ((c.toNat:Nat):Int)∧((c.toNat:Nat):Int) ≤ 255:=by have:=c.toNat_lt; omega
theorem qapnd8 {xs:List Int} {y:Int} (h:xs.length ≤ 1000):apnd 8 xs [y]=some (xs ++ [y]):=Yes.eq (Yes.apnd (by simp; omega) (by simp; omega) rfl)
/-! ### Copies -/
theorem c10 (m:LoomMill) (h:m.Widths.length ≤ 1000):f10 m=some m:=by unfold f10; exact Yes.eq (Yes.bind (Yes.apnd (by simp; omega) (by simp; omega) (Yes.some (by simp))))
theorem c11 (l:List LoomOrder) (h:l.length ≤ 1000):f11 l=some l:=by unfold f11; exact Yes.eq (Yes.bind (Yes.apnd (by simp; omega) (by simp; omega) (Yes.some (by simp))))
theorem c16 (l:List LoomRun) (h:l.length ≤ 1000):f16 l=some l:=by unfold f16; exact Yes.eq (Yes.bind (Yes.apnd (by simp; omega) (by simp; omega) (Yes.some (by simp))))
theorem c22 (l:List Int) (h:l.length ≤ 1000):f22 l=some l:=by unfold f22; exact Yes.eq (Yes.bind (Yes.apnd (by simp; omega) (by simp; omega) (Yes.some (by simp))))
theorem c23 (d:Design) (h:d.Rows.length ≤ 1000):f23 d=some d:=by unfold f23; exact Yes.eq (Yes.bind (Yes.apnd (by simp; omega) (by simp; omega) (Yes.some (by simp))))
theorem c7 (l:FaultLoom) (h1:l.Harness.Warps.length ≤ 1000) (h2:l.Design.Rows.length ≤ 1000):f7 l=some l:=by unfold f7; rw [c22 _ h1,c23 _ h2]; rfl
/-! ### The mill and its orders -/
def sd (l : List LoomOrder) : Nat → Int
 | 0=>0
 | j + 1=>sd l j + (od l (j:Int)).Woven + 3
structure Shed (m : LoomMill) (l : List LoomOrder) : Prop where
 m:m=⟨[10,10],3⟩
 n:l.length ≤ 6
 o:∀ j:Nat,j < l.length→(1 ≤ (od l (j:Int)).Width∧(od l (j:Int)).Width ≤ 10)∧(0 ≤ (od l (j:Int)).Chain∧(od l (j:Int)).Chain ≤ 2)∧(1 ≤ (od l (j:Int)).Woven∧(od l (j:Int)).Woven ≤ 12)∧(od l (j:Int)).Early=0∧sd l j + (od l (j:Int)).Woven ≤ (od l (j:Int)).Late∧(od l (j:Int)).Late ≤ 15 * j + 23
theorem sd_app {l : List LoomOrder} {x : LoomOrder} : ∀ j, j ≤ l.length → sd (l ++ [x]) j = sd l j
 | 0,_=>rfl
 | j + 1,h=>by rw [sd,sd,sd_app j (by omega),od_app (by omega),if_neg (by omega)]
theorem sd_bound {l : List LoomOrder} (h : ∀ j : Nat, j < l.length → 1 ≤ (od l (j : Int)).Woven ∧ (od l (j : Int)).Woven ≤ 12) : ∀ j, j ≤ l.length → 0 ≤ sd l j ∧ sd l j ≤ 15 * j
 | 0,_=>⟨Int.le_refl _,Int.le_refl _⟩
 | j + 1,hj=>by
  have h1:=sd_bound h j (by omega)
  have h2:=h j (by omega)
  rw [sd]; omega
theorem shed_is (x2:List (Vector UInt8 3)):Yes (f4 1 3 x2) fun r=>Shed r.1 r.2:=by
 unfold f4
 refine qbind 3 (by decide) (Yes.bind (Yes.mono (Q':=fun m=>m=(⟨[10,10],3⟩:LoomMill)) ?_ fun m hm=>?_))
 ·have hr : rem64 (((1 : UInt8).toNat : Nat) : Int) 3 = some 1 := by decide
  refine Yes.upto (σ:=LoomMill) 2 (by omega) (fun i m=>m=⟨List.replicate i 10,3⟩) rfl (fun i m k hi hI hk=>?_) (fun m k hI=>?_)
  ·subst hI
   refine Yes.jn (qbind _ hr (qtake (decide_eq_true (by omega)) ?_))
   refine Yes.bind (qbind _ (qapnd8 (by simp; omega)) (Yes.some (hk _ ?_)))
   rw [List.replicate_succ']
  ·subst hI
   exact Yes.jn (qbind _ hr (qskip (by decide) (Yes.some rfl)))
 subst hm
 refine Yes.bind (Yes.mono (Q':=Shed ⟨[10,10],3⟩) ?_ fun l hl=>Yes.some hl)
 refine Yes.rng (fun (s:List LoomOrder × Int) i=>(s.1,s.2,(i:Int))) 0 6 (fun i s=>s.1.length=i∧s.2=sd s.1 i∧Shed ⟨[10,10],3⟩ s.1) ([],0) rfl (by omega) (by omega) ⟨rfl,rfl,rfl,by simp,fun j hj=>by simp at hj⟩ (fun i s k _ hi hI hk=>?_) (fun s k hI=>?_)
 ·obtain ⟨l, day⟩ := s
  obtain ⟨h1,h2,h3⟩:=hI
  simp only at h1 h2 h3
  refine Yes.jn ?_
  by_cases hx:i < x2.length
  ·refine qbind true (by rw [decide_eq_true (Int.ofNat_lt.2 hx), decide_eq_true (show (i : Int) < 6 by omega)]; rfl) (qtake rfl ?_)
   have hv:∀ (q:Nat) (h:q < 3),idx (x2[i]).toList (q:Int)=some ((x2[i]).toList[q]'(by simp; omega)):=fun q h=>qidx (by simp; omega)
   obtain ⟨a,ha,ha0,ha1⟩:=qrem (a:=(((x2[i]).toList[0]'(by simp)).toNat:Int)) (b:=10) (by omega) (by omega)
   obtain ⟨b,hb,hb0,hb1⟩:=qrem (a:=(((x2[i]).toList[1]'(by simp)).toNat:Int)) (b:=3) (by omega) (by omega)
   obtain ⟨c,hc,hc0,hc1⟩:=qrem (a:=(((x2[i]).toList[2]'(by simp)).toNat:Int)) (b:=12) (by omega) (by omega)
   obtain ⟨q,hq,hq0⟩:=qquo (a:=(((x2[i]).toList[1]'(by simp)).toNat:Int)) (by omega) (by have:=qu8 ((x2[i]).toList[1]'(by simp)); omega)
   obtain ⟨e,he,he0,he1⟩:=qrem (a:=q) (b:=9) hq0 (by omega)
   have hsd:=sd_bound (l:=l) (fun j hj=>(h3.o j hj).2.2.1) i (by omega)
   refine Yes.bind (qbind _ (qidx hx) (qbind _ (hv 0 (by omega)) (qbind _ ha (qbind _ (qidx hx) (qbind _ (hv 1 (by omega)) (qbind _ hb (qbind _ (qidx hx) (qbind _ (hv 2 (by omega)) (qbind _ hc (qbind _ (qidx hx) (qbind _ (hv 1 (by omega)) (qbind _ hq (qbind _ he (qbind _ (apnd40 (xs:=l) (by omega)) (Yes.some ?_)))))))))))))))
   have e1:w64 (1 + a)=1 + a:=qw64 (by omega) (by omega)
   have e2:w64 (1 + c)=1 + c:=qw64 (by omega) (by omega)
   have e3:w64 (1 + c + 3)=1 + c + 3:=qw64 (by omega) (by omega)
   have e4:w64 (day + (1 + c + 3))=day + (1 + c + 3):=qw64 (by omega) (by omega)
   have e5:w64 (day + (1 + c + 3) + e)=day + (1 + c + 3) + e:=qw64 (by omega) (by omega)
   have e6:w64 ((i:Int) + 1)=((i + 1:Nat):Int):=by rw [qw64 (by omega) (by omega)]; omega
   dsimp only
   rw [e1,e2,e3,e4,e5,e6]
   have hat:od (l ++ [⟨1 + a,b,1 + c,0,day + (1 + c + 3) + e⟩]) ((l.length:Nat):Int)=⟨1 + a,b,1 + c,0,day + (1 + c + 3) + e⟩:=by rw [od_app (Nat.le_refl _),if_pos rfl]
   refine hk (_,_) ⟨by simp [h1],?_,rfl,by simp; omega,fun j hj=>?_⟩
   ·simp only
    rw [sd,sd_app i (by omega),← h2,← h1,hat]
    simp only; omega
   ·have hj' : j < l.length + 1 := by simpa using hj
    by_cases hjl:j=l.length
    ·subst hjl
     simp only
     rw [hat,sd_app _ (Nat.le_refl _)]
     have hsd':=hsd
     rw [← h1] at hsd' h2
     simp only
     refine ⟨⟨?_,?_⟩,⟨hb0,?_⟩,⟨?_,?_⟩,trivial,?_,?_⟩
     ·omega
     ·omega
     ·omega
     ·omega
     ·omega
     ·omega
     ·omega
    ·simp only
     rw [od_app (by omega),if_neg hjl,sd_app j (by omega)]
     exact h3.o j (by omega)
  ·refine qbind false (by rw [decide_eq_false (show ¬ (i:Int) < (x2.length:Int) by omega)]; rfl) (qskip rfl (Yes.some h3))
 ·refine Yes.jn (qbind false ?_ (qskip rfl (Yes.some hI.2.2)))
  cases decide (((6:Nat):Int) < (x2.length:Int)) <;> rfl
theorem shed_ok {m:LoomMill} {l:List LoomOrder} (h:Shed m l):chkE m l=0:=by
 have hn:=h.n
 have hm:=h.m
 subst hm
 unfold chkE
 rw [if_neg (by simp; omega),if_pos]
 refine ⟨by simp,by decide,by decide,List.all_eq_true.2 fun x hx=>?_⟩
 obtain ⟨i,hi,he⟩:=List.getElem_of_mem hx
 have hx2:od l (i:Int)=x:=by unfold od; simp [he,hi]
 have:=h.o i hi
 rw [← hx2]
 simp only [ordOk,Bool.and_eq_true,btw_iff]
 have hs:=sd_bound (l:=l) (fun j hj=>(h.o j hj).2.2.1) i (by omega)
 omega
theorem shed_cpl {m:LoomMill} {l:List LoomOrder} (h:Shed m l):Cpl m l []:=by
 have hm:=h.m
 have hup:∀ d i:Nat,i + d < l.length→sd l i + (od l (i:Int)).Woven + 3 ≤ sd l (i + d + 1):=fun d=>by
  induction d with
  | zero=>intro i _; rw [Nat.add_zero,sd]; omega
  | succ d ih=>
   intro i hi
   have h1:=ih i (by omega)
   have h2:=(h.o (i + d + 1) (by omega)).2.2.1
   rw [show i + (d + 1) + 1=(i + d + 1) + 1 by omega,sd]; omega
 refine ⟨fun _=>0,sd l,fun i hi=>⟨hi,by rw [hm]; simp,fun r hr=>(by cases hr),?_,?_,?_⟩,fun i j hi hj hne _ hle=>?_⟩
 ·have := (h.o i hi).1
  rw [hm]; show _ ≤ (10:Int); omega
 ·have := (h.o i hi).2.2.2.1
  have:=sd_bound (l:=l) (fun j hj=>(h.o j hj).2.2.1) i (by omega)
  omega
 ·exact (h.o i hi).2.2.2.2.1
 ·have hg : gap m l i j ≤ 3 := by unfold gap; rw [hm]; simp only; split <;> omega
  rcases Nat.lt_or_gt_of_ne hne with hlt | hlt
  ·have := hup (j - i - 1) i (by omega)
   rw [show i + (j - i - 1) + 1=j by omega] at this
   omega
  ·have := hup (i - j - 1) j (by omega)
   rw [show j + (i - j - 1) + 1=i by omega] at this
   have:=(h.o j hj).2.2.1
   omega
/-! ### The loom and its damages -/
structure Clo (l : FaultLoom) : Prop where
 ok:loomEF l=0
 h:2 ≤ l.Design.Hooks∧l.Design.Hooks ≤ 8
 r:1 ≤ l.Design.Rows.length∧l.Design.Rows.length ≤ 12
 w:1 ≤ l.Harness.Warps.length∧l.Harness.Warps.length ≤ 20
theorem wu64_q {n:Int} (h1:0 ≤ n) (h2:n ≤ 9223372036854775807):wu64 n=n:=by
 unfold wu64; rw [IntKind.wrap_u64]; omega
theorem design_is (x0:UInt8) (x1:List UInt16):Yes (f18 x0 x1) fun d=>(2 ≤ d.Hooks∧d.Hooks ≤ 8)∧(1 ≤ d.Rows.length∧d.Rows.length ≤ 12)∧∀ w ∈ d.Rows,0 ≤ w∧w ≤ 2 ^ d.Hooks.toNat - 1:=by
 unfold f18
 obtain ⟨r,hr,hr0,hr1⟩:=qrem (a:=((x0.toNat:Nat):Int)) (b:=7) (by omega) (by omega)
 refine qbind _ hr ?_
 rw [qw64 (n:=2 + r) (by omega) (by omega)]
 have hsm:=pow_smallF (n:=2 + r) (by omega) (by omega)
 have h4:(4:Int) ≤ 2 ^ (2 + r).toNat:=by
  have a:2 ^ 2 ≤ 2 ^ (2 + r).toNat:=Nat.pow_le_pow_right (by omega) (by omega)
  have c:((2 ^ (2 + r).toNat:Nat):Int)=(2:Int) ^ (2 + r).toNat:=by simp
  rw [← c]; omega
 refine Yes.bind ?_
 refine Yes.upto (σ:=Design) 12 (by omega) (fun i h=>h.Hooks=2 + r∧h.Rows.length=i∧∀ w ∈ h.Rows,0 ≤ w∧w ≤ 2 ^ (2 + r).toNat - 1) ⟨rfl,rfl,fun w hw=>by cases hw⟩ (fun i h k hi hI hk=>?_) (fun h k hI=>?_)
 ·obtain ⟨h1, h2, h3⟩ := hI
  refine Yes.jn ?_
  have hnext:∀ y:Int,0 ≤ y→y ≤ 2 ^ (2 + r).toNat - 1→_:=fun y hy1 hy2=>hk { h with Rows:=h.Rows ++ [y] } ⟨h1,by simp [h2],fun w hw=>by
   rcases List.mem_append.1 hw with hw | hw
   ·exact h3 w hw
   ·rw [List.mem_singleton.1 hw]; exact ⟨hy1,hy2⟩⟩
  by_cases hx:i < x1.length
  ·have hsh : shl64 1 (wu64 h.Hooks) = some (2 ^ (2 + r).toNat) := by rw [h1, wu64_q (by omega) (by omega), shl_oneF (by omega) (by omega)]
   obtain ⟨a,ha,ha0,ha1⟩:=qrem (a:=((x1[i].toNat:Nat):Int)) (b:=2 ^ (2 + r).toNat) (by omega) (by omega)
   refine qbind true ?_ (qtake rfl (Yes.bind (Yes.bind (qtake (decide_eq_true (Int.ofNat_lt.2 hx)) (qbind _ (qidx hx) (qbind _ hsh (qbind _ ha (Yes.some (qbind _ (qapnd8 (by omega)) (Yes.some (hnext a ha0 (by omega))))))))))))
   by_cases h0:i=0
   ·subst h0; rfl
   ·have : ((i : Int) == 0) = false := by rw [beq_eq_false_iff_ne]; omega
    rw [this,decide_eq_true (Int.ofNat_lt.2 hx),decide_eq_true (show (i:Int) < 12 by omega)]; rfl
  ·by_cases h0 : i = 0
   ·subst h0
    refine qbind true rfl (qtake rfl (Yes.bind (Yes.bind (qskip (decide_eq_false (by omega)) (Yes.some (qbind _ (qapnd8 (by omega)) (Yes.some (hnext 1 (by omega) (by omega)))))))))
   ·refine qbind false ?_ (qskip rfl (Yes.some (Yes.some ⟨by omega, by omega, fun w hw => by rw [h1]; exact h3 w hw⟩)))
    have:((i:Int) == 0)=false:=by rw [beq_eq_false_iff_ne]; omega
    rw [this,decide_eq_false (show ¬ (i:Int) < (x1.length:Int) by omega)]; rfl
 ·obtain ⟨h1, h2, h3⟩ := hI
  refine Yes.jn (qbind false ?_ (qskip rfl (Yes.some (Yes.some ⟨by omega,by omega,fun w hw=>by rw [h1]; exact h3 w hw⟩))))
  cases decide (((12:Nat):Int) < (x1.length:Int)) <;> rfl
theorem clo_is (x0:UInt8) (x1:List UInt16):Yes (f5 x0 x1) Clo:=by
 unfold f5
 refine Yes.bind (Yes.mono (design_is x0 x1) fun d hd=>?_)
 obtain ⟨⟨b1,b2⟩,⟨b3,b4⟩,b5⟩:=hd
 obtain ⟨H,hH⟩:∃ H:Nat,d.Hooks=(H:Int):=⟨d.Hooks.toNat,by omega⟩
 refine Yes.bind (Yes.mono (Q':=fun l=>l.Design=d∧l.Harness.Hooks=d.Hooks∧l.Harness.Warps.length=H∧∀ w ∈ l.Harness.Warps,0 ≤ w∧w < d.Hooks) ?_ fun l hl=>?_)
 ·refine Yes.upto (σ := FaultLoom) H (by omega) (fun i l => l.Design = d ∧ l.Harness.Hooks = d.Hooks ∧ l.Harness.Warps.length = i ∧ ∀ w ∈ l.Harness.Warps, 0 ≤ w ∧ w < d.Hooks) ⟨rfl, rfl, rfl, fun w hw => by cases hw⟩ (fun i l k hi hI hk => ?_) (fun l k hI => ?_)
  ·obtain ⟨h1, h2, h3, h4⟩ := hI
   refine Yes.jn (qtake (decide_eq_true (by rw [h1]; omega)) (Yes.bind (qbind _ (qapnd8 (by omega)) (Yes.some (hk _ ⟨h1,h2,by simp [h3],fun w hw=>?_⟩)))))
   rcases List.mem_append.1 hw with hw | hw
   ·exact h4 w hw
   ·rw [List.mem_singleton.1 hw]; omega
  ·exact Yes.jn (qskip (decide_eq_false (by rw [hI.1]; omega)) (Yes.some hI))
 ·obtain ⟨h1, h2, h3, h4⟩ := hl
  refine Yes.bind (Yes.mono (Q':=fun l=>l.Design=d∧l.Harness.Hooks=d.Hooks∧(1 ≤ l.Harness.Warps.length∧l.Harness.Warps.length ≤ 20)∧∀ w ∈ l.Harness.Warps,0 ≤ w∧w < d.Hooks) ?_ fun l hl=>Yes.some ?_)
  ·rw [h1, qw64 (by omega) (by omega)]
   refine Yes.lp (fun s=>0 ≤ s.2∧s.2 ≤ d.Hooks - 2∧s.1.Design=d∧s.1.Harness.Hooks=d.Hooks∧1 ≤ s.1.Harness.Warps.length∧(s.1.Harness.Warps.length:Int) + s.2 ≤ 2 * d.Hooks - 2∧∀ w ∈ s.1.Harness.Warps,0 ≤ w∧w < d.Hooks) (fun s=>s.2.toNat) ⟨by simp only; omega,by simp only; omega,h1,h2,by simp only; omega,by simp only; omega,h4⟩ (by simp only; omega) ?_
   rintro ⟨l,o⟩ k ⟨c1,c2,c3,c4,c5,c6,c7⟩ hk
   simp only at c1 c2 c3 c4 c5 c6 c7 hk
   refine Yes.jn ?_
   by_cases ho:o > 0
   ·refine qtake (decide_eq_true ho) (Yes.bind (qbind _ (qapnd8 (by omega)) (Yes.some ?_)))
    rw [qw64 (n:=o - 1) (by omega) (by omega)]
    refine hk _ ⟨by simp only; omega,by simp only; omega,c3,c4,by simp,by simp only [List.length_append,List.length_singleton]; omega,fun w hw=>?_⟩ (by simp only; omega)
    rcases List.mem_append.1 hw with hw | hw
    ·exact c7 w hw
    ·rw [List.mem_singleton.1 hw]; omega
   ·exact qskip (decide_eq_false ho) (Yes.some ⟨c3,c4,⟨c5,by omega⟩,c7⟩)
  ·obtain ⟨c1, c2, c3, c4⟩ := hl
   refine ⟨?_,by rw [c1]; omega,by rw [c1]; omega,c3⟩
   have t:tieEF l.Harness=0:=by
    unfold tieEF
    rw [if_pos (by simp [btwF]; omega),if_neg (by omega),if_neg (by omega),if_pos]
    exact List.all_eq_true.2 fun w hw=>by have:=c4 w hw; simp [btwF]; omega
   have e:desEF l.Design=0:=by
    rw [c1]
    unfold desEF
    rw [if_pos (by simp [btwF]; omega),if_neg (by omega),if_neg (by omega),if_pos]
    exact List.all_eq_true.2 fun w hw=>by have:=b5 w hw; simp [btwF]; omega
   unfold loomEF
   rw [t,e,if_neg (fun h=>h rfl),if_neg (fun h=>h rfl),if_neg (by rw [c1,c2]; exact fun h=>h rfl)]
theorem kind_q (a:UInt8):∃ k:Nat,(((1:UInt8) + a % 5).toNat:Int)=(k:Int)∧1 ≤ k∧k ≤ 5:=by
 refine ⟨_,rfl,?_⟩
 have h:(a % 5).toNat=a.toNat % 5:=by simp
 rw [UInt8.toNat_add,h]
 have:a.toNat % 5 < 5:=Nat.mod_lt _ (by decide)
 simp
 omega
theorem u8rem_q {a b:UInt8} (hb:b ≠ 0) {β:Type} {K:UInt8→Option β} {Q:β→Prop} (h:Yes (K (a % b)) Q):Yes ((u8rem a b).bind K) Q:=by
 refine Yes.bind ⟨a % b,?_,h⟩
 unfold u8rem
 rw [if_neg hb]
theorem q1 {l:FaultLoom} {p h:Int} (h1:0 ≤ p) (h2:p < l.Design.Rows.length) (h3:0 ≤ h) (h4:h < l.Design.Hooks):dmgF l ⟨1,p,h,0,false⟩=true:=by
 simp [dmgF,btwF]; omega
theorem q2 {l:FaultLoom} {h:Int} {u:Bool} (h3:0 ≤ h) (h4:h < l.Design.Hooks):dmgF l ⟨2,0,h,0,u⟩=true:=by
 simp [dmgF,btwF]; omega
theorem q5 {l:FaultLoom} {y:Int} (h1:0 ≤ y) (h2:y < l.Harness.Warps.length):dmgF l ⟨5,0,0,y,false⟩=true:=by
 simp [dmgF,btwF]; omega
theorem q34 {l:FaultLoom} {k p:Int} (hk:k=3 ∨ k=4) (h1:0 ≤ p) (h2:p < l.Design.Rows.length):dmgF l ⟨k,p,0,0,false⟩=true:=by
 rcases hk with rfl | rfl <;> (simp [dmgF,btwF]; omega)
theorem damage_is {l:FaultLoom} (C:Clo l) (v:Vector UInt8 3):Yes (f8 l v) fun d=>dmgF l d=true:=by
 have hh:=C.h
 have hr:=C.r
 have hw:=C.w
 have hv:∀ (q:Nat) (h:q < 3),idx v.toList (q:Int)=some (v.toList[q]'(by simp; omega)):=fun q h=>qidx (by simp; omega)
 unfold f8
 refine qbind _ (hv 0 (by omega)) (u8rem_q (by decide) (Yes.bind ?_))
 obtain ⟨k,hk,hk1,hk5⟩:=kind_q (v.toList[0]'(by simp))
 rw [hk]
 obtain ⟨p,hp,hp0,hp1⟩:=qrem (a:=((v.toList[1]'(by simp)).toNat:Int)) (b:=(l.Design.Rows.length:Int)) (by omega) (by omega)
 obtain ⟨q,hq,hq0,hq1⟩:=qrem (a:=((v.toList[2]'(by simp)).toNat:Int)) (b:=l.Design.Hooks) (by omega) (by omega)
 obtain ⟨n,hn,hn0,hn1⟩:=qrem (a:=((v.toList[1]'(by simp)).toNat:Int)) (b:=l.Design.Hooks) (by omega) (by omega)
 obtain ⟨w,hww,hw0,hw1⟩:=qrem (a:=((v.toList[1]'(by simp)).toNat:Int)) (b:=(l.Harness.Warps.length:Int)) (by omega) (by omega)
 by_cases k1:k=1
 ·subst k1
  exact qtake rfl (qbind _ (hv 1 (by omega)) (qbind _ hp (qbind _ (hv 2 (by omega)) (qbind _ hq (Yes.some (Yes.some (q1 hp0 hp1 hq0 hq1)))))))
 have n1:((k:Int) == 1)=false:=by rw [beq_eq_false_iff_ne]; omega
 refine qskip n1 ?_
 by_cases k2:k=2
 ·subst k2
  exact qtake rfl (qbind _ (hv 1 (by omega)) (qbind _ hn (qbind _ (hv 2 (by omega)) (u8rem_q (by decide) (Yes.some (Yes.some (q2 hn0 hn1)))))))
 have n2:((k:Int) == 2)=false:=by rw [beq_eq_false_iff_ne]; omega
 refine qskip n2 ?_
 by_cases k5:k=5
 ·subst k5
  exact qtake rfl (qbind _ (hv 1 (by omega)) (qbind _ hww (Yes.some (Yes.some (q5 hw0 hw1)))))
 have n5:((k:Int) == 5)=false:=by rw [beq_eq_false_iff_ne]; omega
 exact qskip n5 (qbind _ (hv 1 (by omega)) (qbind _ hp (Yes.some (Yes.some (q34 (by omega) hp0 hp1)))))
end Go.Proofs.YtomjodbnpgbjnaaGreat
