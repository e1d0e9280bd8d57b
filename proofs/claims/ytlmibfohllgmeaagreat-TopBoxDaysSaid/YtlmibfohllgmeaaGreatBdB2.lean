/- Laws of plain functions, part 2. -/
import Derived.Test.YtlmibfohllgmeaaGreatBdB1
set_option maxRecDepth 8000
namespace Go.Proofs.YtlmibfohllgmeaaGreat
open Go.RowKit
open Classical
theorem Xn (l:BoxLoom) (c:Int) (F:BoxLoom→Int) (b:Int) (p:Gg):(∃ x,WvX l c p x∧Jh l c F b p=min b (x.2.2 + F x.1)) ∨ ((∀ x,¬ WvX l c p x)∧Jh l c F b p=b):=by
 unfold Jh WvX
 cases ho:Hs l p with
 | none=>exact .inr ⟨fun x h=>(by cases h.1),rfl⟩
 | some x=>
  by_cases hc:Qu l x.2.1=c
  ·exact .inl ⟨x,⟨rfl,hc⟩,by simp only [if_pos hc]⟩
  ·exact .inr ⟨fun y h=>hc (by rw [Option.some.inj h.1]; exact h.2),by simp only [if_neg hc]⟩
theorem Ma {l : BoxLoom} {c : Int} {F : BoxLoom → Int} {t : Int} : ∀ (xs : List Gg) (b : Int), xs.foldl (Jh l c F) b < t ↔ b < t ∨ ∃ q ∈ xs, ∃ x, WvX l c q x ∧ x.2.2 + F x.1 < t
 | [],b=>by simp
 | p :: xs,b=>by
  rw [List.foldl_cons,Ma xs]
  rcases Xn l c F b p with ⟨x,hx,e⟩ | ⟨hn,e⟩
  ·rw [e]
   constructor
   ·rintro (h | ⟨q, hq, h⟩)
    ·by_cases hb : b < t
     ·exact .inl hb
     ·exact .inr ⟨p,by simp,x,hx,by omega⟩
    ·exact .inr ⟨q,by simp [hq],h⟩
   ·rintro (h | ⟨q, hq, y, hy, h⟩)
    ·exact .inl (by omega)
    ·rcases List.mem_cons.1 hq with rfl | hq
     ·rw [hx.one hy]; exact .inl (by omega)
     ·exact .inr ⟨q,hq,y,hy,h⟩
  ·rw [e]
   constructor
   ·rintro (h | ⟨q, hq, h⟩)
    ·exact .inl h
    ·exact .inr ⟨q,by simp [hq],h⟩
   ·rintro (h | ⟨q, hq, y, hy, h⟩)
    ·exact .inl h
    ·rcases List.mem_cons.1 hq with rfl | hq
     ·exact absurd hy (hn y)
     ·exact .inr ⟨q,hq,y,hy,h⟩
theorem Si : ∀ (csX : List Int) {l : BoxLoom}, Kd l → csX.length ≤ 1000 → 0 ≤ cLX csX l ∧ (cLX csX l = Tj ∨ cLX csX l ≤ 6 * csX.length)
 | [],l,_,_=>by rw [cLX]; simp
 | c :: csX,l,hl,hlen=>by
  rw [cLX]
  simp only [List.length_cons] at hlen ⊢
  have key:∀ (xs:List Gg) (b:Int),(∀ x ∈ xs,x ∈ Hz l)→0 ≤ b∧(b=Tj ∨ b ≤ 6 * ((csX.length + 1:Nat):Int))→0 ≤ xs.foldl (Jh l c (fun n=>cLX csX n)) b∧(xs.foldl (Jh l c (fun n=>cLX csX n)) b=Tj ∨ xs.foldl (Jh l c (fun n=>cLX csX n)) b ≤ 6 * ((csX.length + 1:Nat):Int)):=fun xs=>by
   induction xs with
   | nil=>intro b _ h; exact h
   | cons p xs ih=>
    intro b hm hb
    rw [List.foldl_cons]
    refine ih _ (fun y hy=>hm y (by simp [hy])) ?_
    rcases Xn l c (fun n=>cLX csX n) b p with ⟨x,hx,e⟩ | ⟨_,e⟩
    ·obtain ⟨h1, _, h3, h4⟩ := Fg hl (hm p (by simp)) hx
     have:=Si csX h1 (by omega)
     rw [e]; unfold Tj at *; omega
    ·rw [e]; exact hb
  exact key _ _ (fun x hx=>hx) ⟨by unfold Tj; omega,.inl rfl⟩
structure RfIX (l : BoxLoom) (c : Int) (csX : List Int) (xs : List Gg) (s : List Gg × Int × Int × Bool) : Prop where
 no:s.2.2.2=false→xs.foldl (Jh l c (fun n=>cLX csX n)) Tj=Tj
 yes:s.2.2.2=true→xs.foldl (Jh l c (fun n=>cLX csX n)) Tj < Tj∧s.2.1=xs.foldl (Jh l c (fun n=>cLX csX n)) Tj∧∃ x1 p x2 x,xs=x1 ++ p :: x2∧WvX l c p x∧x.2.2 + cLX csX x.1=s.2.1∧s.1=p :: (rfX csX x.1).1∧∀ q ∈ x1,∀ y,WvX l c q y→s.2.1 < y.2.2 + cLX csX y.1
 far:0 ≤ s.2.2.1∧s.2.2.1 ≤ (csX.length:Int) + 1∧∀ k:Nat,(k:Int) + 1 ≤ s.2.2.1 ↔ ∃ q ∈ xs,∃ x,WvX l c q x∧(k:Int) ≤ (rfX csX x.1).2.2
structure Lj (csX : List Int) (l : BoxLoom) : Prop where
 far:0 ≤ (rfX csX l).2.2∧(rfX csX l).2.2 ≤ csX.length
 pre:∀ k:Nat,k ≤ csX.length→(cLX (csX.take k) l < Tj ↔ (k:Int) ≤ (rfX csX l).2.2)
 mvX:cLX csX l < Tj→(rfX csX l).2.1=cLX csX l
 bd:0 ≤ (rfX csX l).2.1∧(rfX csX l).2.1 ≤ 6 * csX.length∧(rfX csX l).1.length ≤ csX.length
theorem Lj.all {csX:List Int} {l:BoxLoom} (h:Lj csX l):cLX csX l < Tj ↔ (rfX csX l).2.2=csX.length:=by
 have:=h.pre csX.length (Nat.le_refl _)
 rw [List.take_length] at this
 have h2:=h.far
 omega
theorem Ay (l : BoxLoom) (c k : Int) (F : BoxLoom → List Gg × Int × Int) (s : List Gg × Int × Int × Bool) (p : Gg) :
  (∃ x,WvX l c p x∧Du l c k F s p=if (F x.1).2.2=k∧(s.2.2.2=false ∨ x.2.2 + (F x.1).2.1 < s.2.1) then (p :: (F x.1).1,x.2.2 + (F x.1).2.1,max s.2.2.1 (1 + (F x.1).2.2),true) else (s.1,s.2.1,max s.2.2.1 (1 + (F x.1).2.2),s.2.2.2)) ∨ ((∀ x,¬ WvX l c p x)∧Du l c k F s p=s):=by
 unfold Du WvX
 cases ho:Hs l p with
 | none=>exact .inr ⟨fun x h=>(by cases h.1),rfl⟩
 | some x=>
  by_cases hc:Qu l x.2.1=c
  ·exact .inl ⟨x,⟨rfl,hc⟩,by simp only [if_pos hc]⟩
  ·exact .inr ⟨fun y h=>hc (by rw [Option.some.inj h.1]; exact h.2),by simp only [if_neg hc]⟩
theorem rf_bdX {l : BoxLoom} (hl : Kd l) {c : Int} {csX : List Int} (hF : ∀ n, Kd n → Lj csX n) : ∀ (xs : List Gg) (s : List Gg × Int × Int × Bool), (∀ p ∈ xs, p ∈ Hz l) → 0 ≤ s.2.1 ∧ s.2.1 ≤ 6 * ((csX.length : Int) + 1) ∧ s.1.length ≤ csX.length + 1 →
  0 ≤ (xs.foldl (Du l c (csX.length:Int) (fun n=>rfX csX n)) s).2.1∧(xs.foldl (Du l c (csX.length:Int) (fun n=>rfX csX n)) s).2.1 ≤ 6 * ((csX.length:Int) + 1)∧(xs.foldl (Du l c (csX.length:Int) (fun n=>rfX csX n)) s).1.length ≤ csX.length + 1
 | [],s,_,h=>h
 | p :: xs,s,hm,h=>by
  rw [List.foldl_cons]
  refine rf_bdX hl hF xs _ (fun q hq=>hm q (by simp [hq])) ?_
  rcases Ay l c (csX.length:Int) (fun n=>rfX csX n) s p with ⟨x,hx,e⟩ | ⟨_,e⟩
  ·obtain ⟨h1, _, h3, h4⟩ := Fg hl (hm p (by simp)) hx
   have hb:=(hF x.1 h1).bd
   rw [e]
   split
   ·simp only [List.length_cons]; omega
   ·exact h
  ·rw [e]; exact h
theorem rf_stepX {l:BoxLoom} (hl:Kd l) {c:Int} {csX:List Int} (hlen:csX.length ≤ 1000) (hF:∀ n,Kd n→Lj csX n) {xs:List Gg} {p:Gg} (hp:p ∈ Hz l) {s:List Gg × Int × Int × Bool} (h:RfIX l c csX xs s):RfIX l c csX (xs ++ [p]) (Du l c (csX.length:Int) (fun n=>rfX csX n) s p):=by
 obtain ⟨hno,hyes,f0,f1,f2⟩:=h
 rcases Ay l c (csX.length:Int) (fun n=>rfX csX n) s p with ⟨x,hx,e⟩ | ⟨hn,e⟩
 ·obtain ⟨h1, _, h3, h4⟩ := Fg hl hp hx
  have hr:=hF x.1 h1
  have hc:=Si csX h1 hlen
  have hfold:(xs ++ [p]).foldl (Jh l c (fun n=>cLX csX n)) Tj=min (xs.foldl (Jh l c (fun n=>cLX csX n)) Tj) (x.2.2 + cLX csX x.1):=by
   rw [List.foldl_append,List.foldl_cons,List.foldl_nil]
   rcases Xn l c (fun n=>cLX csX n) (xs.foldl (Jh l c (fun n=>cLX csX n)) Tj) p with ⟨y,hy,e2⟩ | ⟨hn,_⟩
   ·rw [e2,hx.one hy]
   ·exact absurd hx (hn x)
  have hfar:∀ k:Nat,(k:Int) + 1 ≤ max s.2.2.1 (1 + (rfX csX x.1).2.2) ↔ ∃ q ∈ xs ++ [p],∃ x,WvX l c q x∧(k:Int) ≤ (rfX csX x.1).2.2:=fun k=>by
   constructor
   ·intro hk
    by_cases hks:(k:Int) + 1 ≤ s.2.2.1
    ·obtain ⟨q, hq, y, hy, hk2⟩ := (f2 k).1 hks
     exact ⟨q,by simp [hq],y,hy,hk2⟩
    ·exact ⟨p,by simp,x,hx,by omega⟩
   ·rintro ⟨q, hq, y, hy, hk2⟩
    rcases List.mem_append.1 hq with hq | hq
    ·have:=(f2 k).2 ⟨q,hq,y,hy,hk2⟩; omega
    ·rw [List.mem_singleton.1 hq] at hy
     rw [hx.one hy]; omega
  have hff:=hr.far
  rw [e]
  split
  ·rename_i hcond
   obtain ⟨c1,c2⟩:=hcond
   have hlt:=hr.all.2 c1
   have hmv:=hr.mvX hlt
   refine ⟨fun hf=>(by cases hf),fun _=>?_,⟨by show 0 ≤ max _ _; omega,by show max _ _ ≤ _; omega,hfar⟩⟩
   have hval:x.2.2 + cLX csX x.1 < xs.foldl (Jh l c (fun n=>cLX csX n)) Tj:=by
    rcases c2 with c2 | c2
    ·rw [hno c2]; unfold Tj at *; omega
    ·by_cases hfd : s.2.2.2 = true
     ·obtain ⟨y1, y2, _⟩ := hyes hfd
      rw [← y2]; simp only [hmv] at c2; exact c2
     ·rw [hno (by simpa using hfd)]; unfold Tj at *; omega
   have hlt2:xs.foldl (Jh l c (fun n=>cLX csX n)) Tj ≤ Tj:=by
    rcases Int.lt_or_le Tj (xs.foldl (Jh l c (fun n=>cLX csX n)) Tj) with hh | hh
    ·by_cases hfd : s.2.2.2 = true
     ·have:=(hyes hfd).1; omega
     ·rw [hno (by simpa using hfd)] at hh; omega
    ·exact hh
   rw [hfold]
   refine ⟨by omega,?_,xs,p,[],x,rfl,hx,?_,rfl,fun q hq y hy=>?_⟩
   ·show x.2.2 + (rfX csX x.1).2.1=_; rw [hmv]; omega
   ·show _=x.2.2 + (rfX csX x.1).2.1; rw [hmv]
   ·show x.2.2 + (rfX csX x.1).2.1 < _
    rw [hmv]
    have:¬ (y.2.2 + cLX csX y.1 < xs.foldl (Jh l c (fun n=>cLX csX n)) Tj∧False):=fun h=>h.2
    rcases Int.lt_or_le (x.2.2 + cLX csX x.1) (y.2.2 + cLX csX y.1) with hh | hh
    ·exact hh
    ·have := (Ma (l := l) (c := c) (F := fun n => cLX csX n) (t := x.2.2 + cLX csX x.1 + 1) xs Tj).2 (.inr ⟨q, hq, y, hy, by show y.2.2 + cLX csX y.1 < _; omega⟩)
     omega
  ·rename_i hcond
   refine ⟨fun hf=>?_,fun hf=>?_,⟨by show 0 ≤ max _ _; omega,by show max _ _ ≤ _; omega,hfar⟩⟩
   ·have hf : s.2.2.2 = false := hf
    rw [hfold,hno hf]
    have:cLX csX x.1=Tj:=by
     rcases hc.2 with h | h
     ·exact h
     ·exact absurd ⟨hr.all.1 (by unfold Tj; omega),.inl hf⟩ hcond
    omega
   ·have hf : s.2.2.2 = true := hf
    obtain ⟨y1,y2,x1,p1,x2,x',z1,z2,z3,z4,z5⟩:=hyes hf
    have hge:xs.foldl (Jh l c (fun n=>cLX csX n)) Tj ≤ x.2.2 + cLX csX x.1:=by
     rcases Int.lt_or_le (cLX csX x.1) Tj with hlt | hge
     ·have hcm : ¬ (x.2.2 + (rfX csX x.1).2.1 < s.2.1) := fun hh => hcond ⟨hr.all.1 hlt, .inr hh⟩
      rw [hr.mvX hlt] at hcm; omega
     ·omega
    rw [hfold,Int.min_eq_left hge]
    exact ⟨y1,y2,x1,p1,x2 ++ [p],x',by rw [z1]; simp,z2,z3,z4,z5⟩
 ·have hfold:(xs ++ [p]).foldl (Jh l c (fun n=>cLX csX n)) Tj=xs.foldl (Jh l c (fun n=>cLX csX n)) Tj:=by
   rw [List.foldl_append,List.foldl_cons,List.foldl_nil]
   rcases Xn l c (fun n=>cLX csX n) (xs.foldl (Jh l c (fun n=>cLX csX n)) Tj) p with ⟨y,hy,_⟩ | ⟨_,e2⟩
   ·exact absurd hy (hn y)
   ·exact e2
  rw [e]
  refine ⟨fun hf=>by rw [hfold]; exact hno hf,fun hf=>?_,f0,f1,fun k=>(f2 k).trans ⟨fun ⟨q,hq,h⟩=>⟨q,by simp [hq],h⟩,fun ⟨q,hq,y,hy,h⟩=>?_⟩⟩
  ·obtain ⟨y1, y2, x1, p1, x2, x', z1, z2, z3, z4, z5⟩ := hyes hf
   rw [hfold]
   exact ⟨y1,y2,x1,p1,x2 ++ [p],x',by rw [z1]; simp,z2,z3,z4,z5⟩
  ·rcases List.mem_append.1 hq with hq | hq
   ·exact ⟨q,hq,y,hy,h⟩
   ·rw [List.mem_singleton.1 hq] at hy; exact absurd hy (hn y)
theorem rf_foldX {l : BoxLoom} (hl : Kd l) {c : Int} {csX : List Int} (hlen : csX.length ≤ 1000) (hF : ∀ n, Kd n → Lj csX n) : ∀ (ys xs : List Gg) (s : List Gg × Int × Int × Bool), (∀ p ∈ ys, p ∈ Hz l) → RfIX l c csX xs s → RfIX l c csX (xs ++ ys) (ys.foldl (Du l c (csX.length : Int) (fun n => rfX csX n)) s)
 | [],xs,s,_,h=>by rw [List.append_nil]; exact h
 | p :: ys,xs,s,hm,h=>by
  rw [List.foldl_cons,show xs ++ p :: ys=(xs ++ [p]) ++ ys by simp]
  exact rf_foldX hl hlen hF ys _ _ (fun q hq=>hm q (by simp [hq])) (rf_stepX hl hlen hF (hm p (by simp)) h)
theorem rf_IX {l:BoxLoom} (hl:Kd l) {c:Int} {csX:List Int} (hlen:csX.length ≤ 1000) (hF:∀ n,Kd n→Lj csX n):RfIX l c csX (Hz l) ((Hz l).foldl (Du l c (csX.length:Int) (fun n=>rfX csX n)) ([],0,0,false)):=
 rf_foldX hl hlen hF (Hz l) [] _ (fun p hp=>hp) ⟨fun _=>rfl,fun h=>(by cases h),by simp,by show (0:Int) ≤ _; omega,fun k=>⟨fun h=>by have h:(k:Int) + 1 ≤ 0:=h; omega,fun ⟨q,hq,_⟩=>by cases hq⟩⟩
theorem Ox : ∀ (csX : List Int), csX.length ≤ 1000 → ∀ {l : BoxLoom}, Kd l → Lj csX l
 | [],_,l,_=>⟨by rw [rfX]; simp,fun k hk=>by
   have:k=0:=by simpa using hk
   subst this; rw [rfX,List.take_nil,cLX]; unfold Tj; simp,fun _=>by rw [rfX,cLX],by rw [rfX]; simp⟩
 | c :: csX,hlen,l,hl=>by
  simp only [List.length_cons] at hlen
  have hF:∀ n,Kd n→Lj csX n:=fun n hn=>Ox csX (by omega) hn
  obtain ⟨hno,hyes,f0,f1,f2⟩:=rf_IX hl (c:=c) (by omega) hF
  have hbd:=rf_bdX hl (c:=c) hF (Hz l) ([],0,0,false) (fun p hp=>hp) ⟨by simp,by simp; omega,by simp⟩
  have e1:(rfX (c :: csX) l).1=((Hz l).foldl (Du l c (csX.length:Int) (fun n=>rfX csX n)) ([],0,0,false)).1:=by rw [rfX]
  have e2:(rfX (c :: csX) l).2.1=((Hz l).foldl (Du l c (csX.length:Int) (fun n=>rfX csX n)) ([],0,0,false)).2.1:=by rw [rfX]
  have e3:(rfX (c :: csX) l).2.2=((Hz l).foldl (Du l c (csX.length:Int) (fun n=>rfX csX n)) ([],0,0,false)).2.2.1:=by rw [rfX]
  refine ⟨by rw [e3]; simp only [List.length_cons]; omega,fun k hk=>?_,fun hlt=>?_,by rw [e1,e2]; simp only [List.length_cons]; omega⟩
  ·rw [e3]
   cases k with
   | zero=>rw [List.take_zero,cLX]; unfold Tj; simp; omega
   | succ k=>
    simp only [List.length_cons] at hk
    rw [List.take_succ_cons,cLX,Ma]
    rw [show (((k + 1:Nat):Int))=(k:Int) + 1 by simp,f2 k]
    constructor
    ·rintro (h | ⟨q, hq, x, hx, h⟩)
     ·exact absurd h (Int.lt_irrefl _)
     ·obtain ⟨h1, _, h3, _⟩ := Fg hl hq hx
      exact ⟨q,hq,x,hx,((hF _ h1).pre k (by omega)).1 (by omega)⟩
    ·rintro ⟨q, hq, x, hx, h⟩
     obtain ⟨h1,_,h3,h4⟩:=Fg hl hq hx
     have hlt:=((hF _ h1).pre k (by omega)).2 h
     have hr:=Si (csX.take k) h1 (by simp; omega)
     refine .inr ⟨q,hq,x,hx,?_⟩
     have:(csX.take k).length ≤ 1000:=by simp; omega
     unfold Tj at *
     omega
  ·have hfd:((Hz l).foldl (Du l c (csX.length:Int) (fun n=>rfX csX n)) ([],0,0,false)).2.2.2=true:=by
    cases hb:((Hz l).foldl (Du l c (csX.length:Int) (fun n=>rfX csX n)) ([],0,0,false)).2.2.2 with
    | true=>rfl
    | false=>rw [cLX,hno hb] at hlt; exact absurd hlt (Int.lt_irrefl _)
   rw [e2,(hyes hfd).2.1,cLX]
theorem rf_firstX {c : Int} {csX : List Int} (hlen : csX.length ≤ 1000) {l : BoxLoom} (hl : Kd l) (hlt : cLX (c :: csX) l < Tj) :
  ∃ x1 p x2 x,Hz l=x1 ++ p :: x2∧WvX l c p x∧x.2.2 + cLX csX x.1=cLX (c :: csX) l∧(rfX (c :: csX) l).1=p :: (rfX csX x.1).1∧∀ q ∈ x1,∀ y,WvX l c q y→cLX (c :: csX) l < y.2.2 + cLX csX y.1:=by
 obtain ⟨hno,hyes,_⟩:=rf_IX hl (c:=c) hlen fun n hn=>Ox csX hlen hn
 have hfd:((Hz l).foldl (Du l c (csX.length:Int) (fun n=>rfX csX n)) ([],0,0,false)).2.2.2=true:=by
  cases hb:((Hz l).foldl (Du l c (csX.length:Int) (fun n=>rfX csX n)) ([],0,0,false)).2.2.2 with
  | true=>rfl
  | false=>rw [cLX,hno hb] at hlt; exact absurd hlt (Int.lt_irrefl _)
 obtain ⟨_,y2,x1,p,x2,x,z1,z2,z3,z4,z5⟩:=hyes hfd
 have:((Hz l).foldl (Du l c (csX.length:Int) (fun n=>rfX csX n)) ([],0,0,false)).2.1=cLX (c :: csX) l:=by rw [y2,cLX]
 exact ⟨x1,p,x2,x,z1,z2,by rw [z3,this],by rw [rfX]; exact z4,fun q hq y hy=>by rw [← this]; exact z5 q hq y hy⟩
theorem allP_lenX {l:BoxLoom} (hl:Kd l):(Hz l).length ≤ 16:=by
 obtain ⟨_,a0,b0⟩:=Uo hl (s:=0) (by omega)
 obtain ⟨_,a1,b1⟩:=Uo hl (s:=1) (by omega)
 have:∀ i,((List.range i).flatMap (rowX (Th l 1))).length=i * Th l 1:=fun i=>by
  induction i with
  | zero=>simp
  | succ i ih=>rw [List.range_succ,List.flatMap_append,List.length_append,ih,List.flatMap_cons,List.flatMap_nil,List.append_nil,rowX,List.length_map,List.length_range,Nat.add_mul]; omega
 show ((List.range (Th l 0)).flatMap (rowX (Th l 1))).length ≤ 16
 rw [this]
 exact Nat.le_trans (Nat.mul_le_mul b0 b1) (by omega)
def Jn (csX:List Int):List (List Int):=csX.map fun c=>[c]
theorem Yf {csX:List Int}:(Jn csX).length=csX.length:=by simp [Jn]
theorem Ot {csX:List Int} {i:Nat} (h:i < csX.length):idx (Jn csX) (i:Int)=some [csX[i]]:=by rw [Xk (by rw [Yf]; exact h)]; simp [Jn]
theorem s53X (csX:List Int) (h:csX.length ≤ 1000):f34 csX=some (Jn csX):=by
 refine Yes.eq ?_
 unfold f34
 refine Yes.bind (Yes.mono (Q':=fun r=>r=Jn csX) ?_ fun r hr=>Yes.some hr)
 refine Yes.upto csX.length (by omega) (fun i s=>s=(Jn csX).take i) (by simp) (fun i s k hi hI hk=>?_) (fun s k hI=>Wr (by simp) (Yes.some ?_))
 ·have hs : s.length ≤ 1000 := by rw [hI]; simp [Jn]; omega
  refine Ww (by simp; omega) (Yes.bind (Gw _ (Xk hi) (Yes.bind (Yes.apnd (by simp; omega) (by simp; omega) (Yes.some (hk _ ?_))))))
  rw [Ag (by rw [Yf]; exact hi),hI]
  simp [Jn]
 ·rw [hI,← Yf,List.take_length]
def VsX (csX:List Int) (pt:Gd) (k:Nat):Prop:=∃ g:Nat,pt.group=(g:Int)∧pt.done=0∧g + k=csX.length
theorem s65sX {csX:List Int} {g:Nat} (hg:g < csX.length) (hl:csX.length ≤ 1000) (r:Tf):f43 ⟨(g:Int),1,r⟩ (Jn csX)=some ⟨((g + 1:Nat):Int),0,r⟩:=by
 refine Yes.eq ?_
 unfold f43
 refine Yes.bind (Yes.mono (Q':=fun p=>p=⟨((g + 1:Nat):Int),0,r⟩) ?_ fun p hp=>Yes.some hp)
 have sh:Vc (1:Int) (([csX[g]]:List Int).length:Int)=some 2:=rfl
 refine Yes.lp (fun s=>s=⟨(g:Int),1,r⟩ ∨ s=⟨((g + 1:Nat):Int),0,r⟩) (fun s=>s.done.toNat) (.inl rfl) (by simp) ?_
 rintro s kk (rfl | rfl) hk
 ·refine Yes.jn (Yes.bind (Ww (decide_eq_true (by show (g : Int) < ((Jn csX).length : Int); rw [Yf]; omega)) (Gw _ (Ot hg) (Gw 2 rfl (Yes.some (Ww rfl (hk _ (.inr ?_) ?_)))))))
  ·show (⟨w64 ((g : Int) + 1), 0, r⟩ : Gd) = _
   rw [Ql (by omega) (by omega)]; simp
  ·show (0:Nat) < 1; omega
 ·refine Yes.jn (Yes.bind (Yes.cond (fun hc => ?_) (fun hc => Yes.some (Wr rfl (Yes.some rfl)))))
  have hlt:((g + 1:Nat):Int) < ((Jn csX).length:Int):=of_decide_eq_true hc
  rw [Yf] at hlt
  exact Gw _ (Ot (i:=g + 1) (by omega)) (Gw 2 rfl (Yes.some (Wr rfl (Yes.some rfl))))
theorem s88sX {csX:List Int} {g:Nat} (hg:g < csX.length) (hl:csX.length ≤ 1000) (r:Tf) (s:Tg):f85 ⟨(g:Int),0,r⟩ (Jn csX) s=some (bif csX[g] == s.colour then (⟨((g + 1:Nat):Int),0,s.next⟩,true) else (⟨(g:Int),0,r⟩,false)):=by
 refine Yes.eq ?_
 unfold f85
 have hb1:Qy .or (0:Int) 1=1:=by decide
 refine Yes.jn (Gw _ (Ot hg) ?_)
 refine Yes.lp (fun t=>t.1=⟨(g:Int),0,r⟩∧(t.2.2=0 ∨ (t.2.2=1∧(csX[g] == s.colour)=false))) (fun t=>1 - t.2.2.toNat) ⟨rfl,.inl rfl⟩ (by simp) ?_
 rintro ⟨p,q,u⟩ kk ⟨rfl,hu⟩ hk
 simp only at hu
 rcases hu with rfl | ⟨rfl,hc⟩
 ·refine Ww rfl (Yes.jn (Gw (csX[g]) rfl (Yes.bind (Yes.cond (fun hc => Gw (0 : Int) rfl (Yes.some ?_)) (fun hc => Yes.some (Wr rfl (hk _ ⟨rfl, .inr ⟨rfl, hc⟩⟩ ?_)))))))
  ·refine Ww rfl (Gw (1 : Int) rfl ?_)
   dsimp only
   rw [hb1]
   refine Gw _ (s65sX hg hl s.next) (Yes.some ?_)
   rw [hc]; rfl
  ·show 1 - (1:Int).toNat < 1 - (0:Int).toNat; omega
 ·refine Wr rfl (Yes.some ?_)
  rw [hc]; rfl
theorem Cy {csX : List Int} (hl : csX.length ≤ 1000) : PtsX (Jn csX) (VsX csX) where
 zero:=by
  rintro pt k ⟨g,h1,h2,h3⟩
  rw [h1,Yf]
  constructor
  ·intro h; omega
  ·intro h; omega
 one:=by
  rintro pt k k' ⟨g,h1,h2,h3⟩ ⟨g',h1',h2',h3'⟩
  omega
 step:=by
  rintro pt k s ⟨g,h1,h2,h3⟩
  obtain ⟨pg,pd,pr⟩:=pt
  simp only at h1 h2
  subst h1 h2
  refine ⟨_,_,s88sX (by omega) hl pr s,?_⟩
  cases hc:csX[g] == s.colour with
  | false=>intro h; cases h
  | true=>intro _; exact ⟨rfl,g + 1,rfl,rfl,by omega⟩
theorem Rf {α β : Type} {f g : β → α → β} : ∀ (xs : List α) (b : β), (∀ x ∈ xs, ∀ b, f b x = g b x) → xs.foldl f b = xs.foldl g b
 | [],_,_=>rfl
 | x :: xs,b,h=>by rw [List.foldl_cons,List.foldl_cons,h x (by simp),Rf xs _ fun y hy=>h y (by simp [hy])]
theorem Cs {l : BoxLoom} {csX : List Int} (hlen : csX.length ≤ 1000) : ∀ (k : Nat) {l' : BoxLoom} {pt : Gd}, Kd l' → l'.Boxes = l.Boxes → pt.race = rcX l' → VsX csX pt k → Yi (Th l 0) (Th l 1) (fun p s => f85 p (Jn csX) s) k pt = cLX (csX.drop (csX.length - k)) l'
 | 0,l',pt,_,_,_,_=>by rw [Yi,Nat.sub_zero,List.drop_length,cLX]
 | k + 1,l',pt,hl',hB,hr,hv=>by
  obtain ⟨g,h1,h2,h3⟩:=hv
  have hg:g < csX.length:=by omega
  have hd:csX.drop (csX.length - (k + 1))=csX[g] :: csX.drop (csX.length - k):=by
   rw [show csX.length - (k + 1)=g by omega,show csX.length - k=g + 1 by omega]; exact List.drop_eq_getElem_cons hg
  rw [Yi,hd,cLX,hr,← Ws hB,← Ws hB,Sp hl']
  unfold Jz
  rw [List.foldl_filterMap]
  refine Rf _ _ fun p hp b=>?_
  obtain ⟨pg,pd,pr⟩:=pt
  simp only at h1 h2 hr
  subst h1 h2
  unfold Bc Jh
  cases ho:Hs l' p with
  | none=>rfl
  | some x=>
   obtain ⟨h4,h5,_⟩:=Db hl' ((Vj hl').1 hp) (show Hs l' p=some (x.1,x.2.1,x.2.2) from ho)
   simp only [Option.map_some]
   unfold Sy
   simp only [s88sX hg hlen]
   by_cases hc:Qu l' x.2.1=csX[g]
   ·rw [if_pos hc, show (csX[g] == Qu l' x.2.1) = true from beq_iff_eq.2 hc.symm]
    simp only [cond_true]
    rw [Ws hB,Ws hB,Cs hlen k h4 (h5.trans hB) rfl ⟨g + 1,rfl,rfl,by omega⟩]
   ·rw [if_neg hc, show (csX[g] == Qu l' x.2.1) = false from beq_eq_false_iff_ne.2 fun h => hc h.symm]
    rfl
theorem Fz {σ α : Type} {cons : Dn σ α} {Q : σ → Prop} {I : σ → Prop} : ∀ (xs : List α) (x : α) (ys : List α) (s : σ), I s → (∀ y ∈ xs, ∀ s, I s → Yes (cons s y) (fun r => r.1 = true ∧ I r.2)) → (∀ s, I s → Yes (cons s x) (fun r => r.1 = false ∧ Q r.2)) → Yes (Xb cons (xs ++ x :: ys) s) Q
 | [],x,ys,s,hs,_,hx=>by
  obtain ⟨r,hr,h1,h2⟩:=hx s hs
  rw [List.nil_append,Xb,hr,Option.bind_some,h1]
  exact Yes.some h2
 | y :: xs,x,ys,s,hs,hy,hx=>by
  obtain ⟨r,hr,h1,h2⟩:=hy y (by simp) s hs
  rw [List.cons_append,Xb,hr,Option.bind_some,h1]
  exact Fz xs x ys r.2 h2 (fun z hz=>hy z (by simp [hz])) hx
theorem Mt {SV α:Type} (body:SV→α→Option (Bool × (Nat × SV))) (s:SV) (x:α):Ob body (0,s) x=body s x:=rfl
theorem s58X {l : BoxLoom} (hl : Kd l) {csX : List Int} (hlen : csX.length ≤ 1000) {k : Nat} (hk : k < 1000) {l' : BoxLoom} {pt : Gd} {m : List (Gd × Int)} (hl' : Kd l') (hB : l'.Boxes = l.Boxes) (hr : pt.race = rcX l') (hv : VsX csX pt (k + 1)) (hm : Sw (Th l 0) (Th l 1) (Jn csX) (VsX csX) m)
  (hlt:cLX (csX.drop (csX.length - (k + 1))) l' < Tj) :
  Yes (f39 ⟨(Th l 0:Int),(Th l 1:Int),⟨⟩⟩ m (Jn csX) pt) (fun r=>∃ n,Kd n∧n.Boxes=l.Boxes∧r.2.1.race=rcX n∧VsX csX r.2.1 k∧Sw (Th l 0) (Th l 1) (Jn csX) (VsX csX) r.2.2∧(rfX (csX.drop (csX.length - (k + 1))) l').1=r.1 :: (rfX (csX.drop (csX.length - k)) n).1∧cLX (csX.drop (csX.length - k)) n < Tj):=by
 have hV:=Cy (csX:=csX) hlen
 obtain ⟨g,h1,h2,h3⟩:=hv
 have hg:g < csX.length:=by omega
 have hd:csX.drop (csX.length - (k + 1))=csX[g] :: csX.drop (csX.length - k):=by
  rw [show csX.length - (k + 1)=g by omega,show csX.length - k=g + 1 by omega]; exact List.drop_eq_getElem_cons hg
 have hdl:(csX.drop (csX.length - k)).length ≤ 1000:=by simp; omega
 rw [hd] at hlt ⊢
 obtain ⟨x1,p,x2,x,z1,z2,z3,z4,z5⟩:=rf_firstX hdl hl' hlt
 have hpa:p ∈ Hz l':=by rw [z1]; simp
 obtain ⟨w1,w2,w3,w4⟩:=Fg hl' hpa z2
 have hst:Jz l'=x1.filterMap (Bc l') ++ (p,⟨rcX x.1,Qu l' x.2.1,x.2.2⟩) :: x2.filterMap (Bc l'):=by
  unfold Jz
  rw [z1,List.filterMap_append,List.filterMap_cons]
  have:Bc l' p=some (p,⟨rcX x.1,Qu l' x.2.1,x.2.2⟩):=by unfold Bc; rw [z2.1]; rfl
  rw [this]
 obtain ⟨pg,pd,pr⟩:=pt
 simp only at h1 h2 hr
 subst h1 h2 hr
 have hvp:VsX csX ⟨(g:Int),0,rcX l'⟩ (k + 1):=⟨g,rfl,rfl,h3⟩
 have tot:Yi (Th l 0) (Th l 1) (fun p s=>f85 p (Jn csX) s) (k + 1) ⟨(g:Int),0,rcX l'⟩=cLX (csX[g] :: csX.drop (csX.length - k)) l':=by rw [Cs hlen (k + 1) hl' hB rfl hvp,hd]
 unfold f39
 refine Yes.jn (Yes.bind ?_)
 refine (Yes.mono (Q':=fun r=>r.1=1∧∃ n,Kd n∧n.Boxes=l.Boxes∧r.2.2.1.race=rcX n∧VsX csX r.2.2.1 k∧Sw (Th l 0) (Th l 1) (Jn csX) (VsX csX) r.2.2.2∧(rfX (csX[g] :: csX.drop (csX.length - k)) l').1=r.2.1 :: (rfX (csX.drop (csX.length - k)) n).1∧cLX (csX.drop (csX.length - k)) n < Tj) ?_ fun r hr=>?_)
 ·show Yes (f131 _ _ _ _ _) _
  rw [← Ws hB,← Ws hB]
  refine s98X hl' ?_
  rw [hst]
  rw [Ws hB,Ws hB]
  -- a round for a pick that weaves the colour
  have rndX : ∀ (y : Gg × Tg) (n : BoxLoom), Kd n → n.Boxes = l'.Boxes → y.2.next = rcX n → 0 ≤ y.2.moves ∧ y.2.moves ≤ 6 → y.2.colour = csX[g] → ∀ (s : Gg × Gd × List (Gd × Int)) (R : Bool × (Nat × Gg × Gd × List (Gd × Int)) → Prop), Sw (Th l 0) (Th l 1) (Jn csX) (VsX csX) s.2.2 →
    (∀ mm,Sw (Th l 0) (Th l 1) (Jn csX) (VsX csX) mm→(y.2.moves + cLX (csX.drop (csX.length - k)) n=cLX (csX[g] :: csX.drop (csX.length - k)) l'→R (false,1,y.1,⟨((g + 1:Nat):Int),0,y.2.next⟩,mm))∧(y.2.moves + cLX (csX.drop (csX.length - k)) n ≠ cLX (csX[g] :: csX.drop (csX.length - k)) l'→R (true,0,s.1,s.2.1,mm))) →
    Yes ((f85 ⟨(g:Int),0,rcX l'⟩ (Jn csX) y.2).bind fun j7=>Option.bind (α:=Bool × (List (Gd × Int))) (bif j7.2 then (f38 big ⟨(Th l 0:Int),(Th l 1:Int),⟨⟩⟩ s.2.2 (Jn csX) (j7.1)).bind fun jA=>(f38 big ⟨(Th l 0:Int),(Th l 1:Int),⟨⟩⟩ (jA.2) (Jn csX) ⟨(g:Int),0,rcX l'⟩).bind fun qA=>some (((w64 ((y.2).moves + jA.1)) == qA.1),qA.2) else some (false,s.2.2)) fun (q8,v7)=>bif q8 then some (false,((1:Nat),(y.1,j7.1,v7))) else some (true,((0:Nat),(s.1,s.2.1,v7)))) R:=fun y n hn hnB hnx hmv hcol s R hks hR=>by
   have hv1:VsX csX ⟨((g + 1:Nat):Int),0,y.2.next⟩ k:=⟨g + 1,rfl,rfl,by omega⟩
   have e1:f85 ⟨(g:Int),0,rcX l'⟩ (Jn csX) y.2=some (⟨((g + 1:Nat):Int),0,y.2.next⟩,true):=by rw [s88sX hg hlen,hcol]; simp
   rw [e1,Option.bind_some]
   have cr:=Si (csX.drop (csX.length - k)) hn hdl
   refine Yes.bind (Ww rfl (Yes.bind ((s57X hl hV k big (Nat.lt_trans hk (by unfold big; omega)) hn (hnB.trans hB) hnx hv1 hks).mono fun a ha=>Yes.bind ((s57X hl hV (k + 1) big (Nat.lt_of_le_of_lt (by omega:k + 1 ≤ 1000) (by unfold big; omega)) hl' hB rfl hvp ha.2).mono fun b hb=>Yes.some ?_))))
   obtain ⟨a1,_⟩:=ha
   obtain ⟨b1,b2⟩:=hb
   rw [Cs hlen k hn (hnB.trans hB) hnx hv1] at a1
   rw [tot] at b1
   rw [a1,b1,Ql (by unfold Tj at *; omega) (by unfold Tj at *; omega)]
   by_cases hq:y.2.moves + cLX (csX.drop (csX.length - k)) n=cLX (csX[g] :: csX.drop (csX.length - k)) l'
   ·exact Ww (beq_iff_eq.2 hq) (Yes.some ((hR _ b2).1 hq))
   ·exact Wr (beq_eq_false_iff_ne.2 hq) (Yes.some ((hR _ b2).2 hq))
  refine Fz (I:=fun s=>s.1=0∧Sw (Th l 0) (Th l 1) (Jn csX) (VsX csX) s.2.2.2) _ _ _ _ ⟨rfl,hm⟩ (fun y hy s hs=>?_) (fun s hs=>?_)
  ·obtain ⟨q, hq, hqe⟩ := List.mem_filterMap.1 hy
   obtain ⟨t,s⟩:=s
   obtain ⟨ht,hs⟩:=hs
   simp only at ht hs
   subst ht
   rw [Mt]
   have hqa:q ∈ Hz l':=by rw [z1]; simp [hq]
   unfold Bc at hqe
   cases ho:Hs l' q with
   | none=>rw [ho] at hqe; cases hqe
   | some v=>
    rw [ho] at hqe
    cases hqe
    obtain ⟨o1,o2,_,_,o5,o6⟩:=Db hl' ((Vj hl').1 hqa) (show Hs l' q=some (v.1,v.2.1,v.2.2) from ho)
    by_cases hc:Qu l' v.2.1=csX[g]
    ·refine rndX (q, ⟨rcX v.1, Qu l' v.2.1, v.2.2⟩) v.1 o1 o2 rfl ⟨o5, o6⟩ hc s _ hs fun mm hmm => ⟨fun he => ?_, fun _ => ⟨rfl, rfl, hmm⟩⟩
     have:=z5 q hq v ⟨ho,hc⟩
     have he:v.2.2 + cLX (csX.drop (csX.length - k)) v.1=cLX (csX[g] :: csX.drop (csX.length - k)) l':=he
     omega
    ·have e1:f85 ⟨(g:Int),0,rcX l'⟩ (Jn csX) ⟨rcX v.1,Qu l' v.2.1,v.2.2⟩=some (⟨(g:Int),0,rcX l'⟩,false):=by
      rw [s88sX hg hlen,show (csX[g] == Qu l' v.2.1)=false from beq_eq_false_iff_ne.2 fun h=>hc h.symm]; rfl
     show Yes ((f85 ⟨(g:Int),0,rcX l'⟩ (Jn csX) ⟨rcX v.1,Qu l' v.2.1,v.2.2⟩).bind _) _
     rw [e1,Option.bind_some]
     exact Yes.bind (Wr rfl (Yes.some (Wr rfl (Yes.some ⟨rfl,rfl,hs⟩))))
  ·obtain ⟨t, s⟩ := s
   obtain ⟨ht,hs⟩:=hs
   simp only at ht hs
   subst ht
   rw [Mt]
   refine rndX (p,⟨rcX x.1,Qu l' x.2.1,x.2.2⟩) x.1 w1 w2 rfl ⟨w3,w4⟩ z2.2 s _ hs fun mm hmm=>⟨fun _=>⟨rfl,rfl,x.1,w1,w2.trans hB,rfl,⟨g + 1,rfl,rfl,by omega⟩,hmm,z4,by omega⟩,fun hne=>absurd z3 hne⟩
 ·obtain ⟨t, r1, r2, r3⟩ := r
  obtain ⟨ht,n,hn⟩:=hr
  simp only at ht
  subst ht
  exact Wr rfl (Yes.some ⟨n,hn⟩)
theorem s52X (xs:List Int) (h:xs.length ≤ 1000):f33 xs=some (xs.all (Vt 0 9)):=by unfold f33; rw [s87X _ _ _ (by omega)]; rfl
theorem Aw {B0 B1:Nat} {gs:List (List Int)} {V:Gd→Nat→Prop}:Sw B0 B1 gs V []:=⟨fun h=>by cases h⟩
theorem s17X {l:BoxLoom} {csX:List Int} (hl:Kd l) (h24:csX.length ≤ 24) (hc:csX.all (Vt 0 9)=true):f9 l csX=some (if (rfX csX l).2.2=csX.length then ((rfX csX l).1,(rfX csX l).2.1,0,0) else ([],0,(rfX csX l).2.2,9)):=by
 have hR:=Ox csX (by omega) hl
 have hfar:=hR.far
 refine Yes.eq ?_
 unfold f9
 refine Gw _ (s51X l hl.sml) (Yes.jn (Wr (by rw [chk0X.2 hl]; rfl) (Wr (decide_eq_false (by omega)) (Gw _ (s52X csX (by omega)) (Wr (by rw [hc]; rfl) (Gw _ (s53X csX (by omega)) (Gw _ (s54rX hl) (Yes.jn ?_))))))))
 refine Yes.upto csX.length (by omega) (fun t s=>(t:Int) ≤ (rfX csX l).2.2∧s=[]) ⟨hfar.1,rfl⟩ (fun t s k ht hI hk=>?_) (fun s k hI=>?_)
 ·obtain ⟨hI, rfl⟩ := hI
  have hcut:cut (Jn csX) 0 (w64 ((t:Int) + 1))=some (Jn (csX.take (t + 1))):=by
   rw [Ql (by omega) (by omega)]
   unfold cut
   rw [if_pos ⟨by omega,by omega,by rw [Yf]; omega⟩,show ((t:Int) + 1).toNat=t + 1 by omega]
   simp [Jn,List.map_take]
  have hlen':(csX.take (t + 1)).length ≤ 1000:=by simp; omega
  have hv:VsX (csX.take (t + 1)) ⟨0,0,rcX l⟩ (t + 1):=⟨0,rfl,rfl,by simp; omega⟩
  refine Ww (by simp; omega) (Yes.jn (Gw _ (s56X hl) (Gw _ hcut (Yes.bind ((s57X hl (Cy hlen') (t + 1) big (by unfold big; omega) hl rfl rfl hv Aw).mono fun r hr=>?_)))))
  obtain ⟨hr,_⟩:=hr
  rw [Cs hlen' (t + 1) hl rfl rfl hv,show (csX.take (t + 1)).length - (t + 1)=0 by simp; omega,List.drop_zero] at hr
  have hp:=hR.pre (t + 1) (by omega)
  refine Yes.cond (fun hc=>Yes.some ?_) (fun hc=>hk _ ⟨?_,rfl⟩)
  ·have hge : r.1 ≥ Tj := of_decide_eq_true hc
   have:¬ ((t + 1:Nat):Int) ≤ (rfX csX l).2.2:=fun h=>by have:=hp.2 h; omega
   rw [if_neg (by omega),show (rfX csX l).2.2=(t:Int) by omega]
  ·have hlt : ¬ r.1 ≥ Tj := of_decide_eq_false hc
   exact hp.1 (by omega)
 ·obtain ⟨hI, rfl⟩ := hI
  have hall:(rfX csX l).2.2=csX.length:=by omega
  have hlt:=hR.all.2 hall
  have hv:VsX csX ⟨0,0,rcX l⟩ csX.length:=⟨0,rfl,rfl,by omega⟩
  rw [if_pos hall]
  refine Wr (by simp) (Gw _ (s56X hl) (Yes.bind ((s57X hl (Cy (by omega)) csX.length big (by unfold big; omega) hl rfl rfl hv Aw).mono fun r hr=>?_)))
  obtain ⟨hr,hk⟩:=hr
  rw [Cs (by omega) csX.length hl rfl rfl hv,Nat.sub_self,List.drop_zero,← hR.mvX hlt] at hr
  rw [hr]
  refine Yes.bind (Yes.mono (Q':=fun s=>s.1=(rfX csX l).1) ?_ fun s hs=>Yes.some (by rw [hs]))
  refine Yes.lp (fun s=>∃ k n,Kd n∧n.Boxes=l.Boxes∧s.2.1.race=rcX n∧VsX csX s.2.1 k∧Sw (Th l 0) (Th l 1) (Jn csX) (VsX csX) s.2.2∧s.1 ++ (rfX (csX.drop (csX.length - k)) n).1=(rfX csX l).1∧cLX (csX.drop (csX.length - k)) n < Tj∧s.1.length + k=csX.length) (fun s=>csX.length - s.1.length) ⟨csX.length,l,hl,rfl,rfl,hv,hk,by rw [Nat.sub_self,List.drop_zero]; rfl,by rw [Nat.sub_self,List.drop_zero]; exact hlt,by simp⟩ (by simp; omega) ?_
  rintro ⟨ps,pt,m⟩ kk ⟨k,n,a1,a2,a3,a4,a5,a6,a7,a8⟩ hkk
  simp only at a3 a4 a5 a6 a8
  have hz:=(Cy (csX:=csX) (by omega)).zero a4
  rw [Yf] at hz
  obtain ⟨g,g1,g2,g3⟩:=id a4
  refine Yes.jn (Yes.cond (fun hc2=>?_) (fun hc2=>Yes.some ?_))
  ·have hlt2 : pt.group < ((Jn csX).length : Int) := of_decide_eq_true hc2
   rw [Yf] at hlt2
   obtain ⟨k,rfl⟩:∃ k',k=k' + 1:=⟨k - 1,by omega⟩
   refine Yes.bind (Yes.bind ((s58X hl (by omega) (by omega) a1 a2 a3 a4 a5 a7).mono fun b hb=>Yes.bind (Yes.apnd (by simp; omega) (by simp; omega) (Yes.some ?_))))
   obtain ⟨n',b1,b2,b3,b4,b5,b6,b7⟩:=hb
   refine hkk _ ⟨k,n',b1,b2,b3,b4,b5,?_,b7,by simp; omega⟩ ?_
   ·show (ps ++ [b.1]) ++ _ = _
    rw [← a6,b6]; simp
   ·show csX.length - (ps ++ [b.1]).length < csX.length - ps.length
    simp; omega
  ·have hge : ¬ pt.group < ((Jn csX).length : Int) := of_decide_eq_false hc2
   rw [Yf] at hge
   have hk0:k=0:=by omega
   subst hk0
   rw [Nat.sub_zero,List.drop_length,rfX,List.append_nil] at a6
   exact a6
def Lg {α:Type} (Q:α→Prop) (rs:List α):Prop:=rs ≠ []∧∀ r ∈ rs,Q r
theorem Lg.one {α:Type} {Q:α→Prop} {a:α} (h:Q a):Lg Q [a]:=⟨by simp,by simpa using h⟩
theorem Nj {α : Type} {Q : α → Prop} : ∀ {l : List (Option (List α))}, l ≠ [] → (∀ x ∈ l, Yes x (Lg Q)) → Yes (catL l) (Lg Q)
 | [],h,_=>absurd rfl h
 | x :: l,_,h=>by
  obtain ⟨rs,h1,h2,h3⟩:=h x (by simp)
  by_cases hl:l=[]
  ·subst hl; subst h1
   exact ⟨rs ++ [],rfl,by simpa using h2,by simpa using h3⟩
  ·obtain ⟨qs, k1, k2, k3⟩ := Nj hl fun z hz => h z (by simp [hz])
   subst h1
   refine ⟨rs ++ qs,by simp only [catL,k1],by simp [h2],fun r hr=>?_⟩
   rcases List.mem_append.1 hr with hr | hr
   ·exact h3 r hr
   ·exact k3 r hr
theorem Lb {α : Type} : ∀ {l : List α} {q : α} {rm : List α}, (q, rm) ∈ Vu l → l.Perm (q :: rm)
 | [],_,_,h=>by simp [Vu] at h
 | x :: xs,q,rm,h=>by
  simp only [Vu,List.mem_cons,List.mem_map] at h
  rcases h with h | ⟨p,hp,he⟩
  ·cases h; exact List.Perm.refl _
  ·cases he
   exact ((Lb (q:=p.1) (rm:=p.2) hp).cons x).trans (List.Perm.swap _ _ _)
theorem Yes.pickL {α β:Type} {rem:List α} {k:α→List α→Option (List β)} {Q:β→Prop} (hne:rem ≠ []) (h:∀ q rm,rem.Perm (q :: rm)→Yes (k q rm) (Lg Q)):Yes (Go.Proofs.YtlmibfohllgmeaaGreat.pickL rem k) (Lg Q):=by
 unfold Go.Proofs.YtlmibfohllgmeaaGreat.pickL
 refine Nj ?_ fun x hx=>?_
 ·cases rem with
  | nil=>exact absurd rfl hne
  | cons x xs=>simp [Vu]
 ·obtain ⟨p, hp, rfl⟩ := List.mem_map.1 hx
  exact h p.1 p.2 (Lb hp)
theorem callL_eqX {α β:Type} {rs:List α} {k:α→Option β} {b:β} (hne:rs ≠ []) (h:∀ a ∈ rs,k a=some b):callL rs k=some b:=by
 cases rs with
 | nil=>exact absurd rfl hne
 | cons a l=>
  have ha:=h a (by simp)
  have hall:∀ c ∈ l,k c=k a:=fun c hc=>by rw [h c (by simp [hc]),ha]
  show (@ite _ (∀ c ∈ l,k c=k a) (Classical.propDecidable _) (k a) none)=_
  rw [if_pos hall,ha]
def Mq {α:Type} (φ:α→Option Int) (b:Int) (x:α):Int:=match φ x with | some v=>min b v | none=>b
theorem Rg {α : Type} {φ : α → Option Int} {t : Int} : ∀ (xs : List α) (b : Int), xs.foldl (Mq φ) b ≤ t ↔ b ≤ t ∨ ∃ x ∈ xs, ∃ v, φ x = some v ∧ v ≤ t
 | [],b=>by simp
 | x :: xs,b=>by
  rw [List.foldl_cons,Rg xs]
  cases hx:φ x with
  | none=>
   rw [show Mq φ b x=b from by unfold Mq; rw [hx]]
   refine or_congr_right ⟨fun ⟨y,hy,v,h⟩=>⟨y,by simp [hy],v,h⟩,fun ⟨y,hy,v,h1,h2⟩=>?_⟩
   rcases List.mem_cons.1 hy with rfl | hy
   ·rw [hx] at h1; cases h1
   ·exact ⟨y,hy,v,h1,h2⟩
  | some u=>
   rw [show Mq φ b x=min b u from by unfold Mq; rw [hx]]
   constructor
   ·rintro (h | ⟨y, hy, v, h⟩)
    ·rcases Int.le_total b u with hbu | hbu
     ·exact .inl (by omega)
     ·exact .inr ⟨x,by simp,u,hx,by omega⟩
    ·exact .inr ⟨y,by simp [hy],v,h⟩
   ·rintro (h | ⟨y, hy, v, h1, h2⟩)
    ·exact .inl (by omega)
    ·rcases List.mem_cons.1 hy with rfl | hy
     ·rw [hx] at h1; cases h1; exact .inl (by omega)
     ·exact .inr ⟨y,hy,v,h1,h2⟩
structure NxX (gs : List (List Int)) (V : Gd → Nat → Prop) (N : Int → Int → Int → Option (Int × Int)) : Prop where
 pts:PtsX gs V
 yes:∀ {pt k} {s:Tg} {g d:Int},V pt (k + 1)→N pt.group pt.done s.colour=some (g,d)→f85 pt gs s=some (⟨g,d,s.next⟩,true)
 no:∀ {pt k} {s:Tg},V pt (k + 1)→N pt.group pt.done s.colour=none→∃ to,f85 pt gs s=some (to,false)
def Dj (N : Int → Int → Int → Option (Int × Int)) : Nat → Int → Int → List Int → Prop
 | 0,_,_,o=>o=[]
 | k + 1,g,d,o=>∃ c o' g' d',o=c :: o'∧N g d c=some (g',d')∧Dj N k g' d' o'
noncomputable def Ex (c:Int) (F:Tf→Int) (s:Gg × Tg):Option Int:=if s.2.colour=c then some (s.2.moves + F s.2.next) else none
noncomputable def cRX (B0 B1 : Nat) : List Int → Tf → Int
 | [],_=>0
 | c :: csX,r=>(Rv B0 B1 r).foldl (Mq (Ex c (cRX B0 B1 csX))) Tj
noncomputable def cstFX (A:Gd→Tg→Option (Gd × Bool)) (F:Gd→Int) (pt:Gd) (s:Gg × Tg):Option Int:=match A pt s.2 with | some (to,true)=>some (s.2.moves + F to) | _=>none
theorem cstS_mnX (A:Gd→Tg→Option (Gd × Bool)) (F:Gd→Int) (pt:Gd):Sy A F pt=Mq (cstFX A F pt):=by
 funext b s
 unfold Sy Mq cstFX
 split <;> simp_all
def Mp (l:BoxLoom) (r:Tf):Prop:=∃ l',Kd l'∧l'.Boxes=l.Boxes∧r=rcX l'
theorem Mp.pk {l:BoxLoom} {r:Tf} (h:Mp l r) {s:Gg × Tg} (hs:s ∈ Rv (Th l 0) (Th l 1) r):Mp l s.2.next∧0 ≤ s.2.moves∧s.2.moves ≤ 6∧0 ≤ s.2.colour∧s.2.colour ≤ 9:=by
 obtain ⟨l',h1,h2,rfl⟩:=h
 rw [← Ws h2,← Ws h2,Sp h1] at hs
 obtain ⟨n,i,_,_,h3,h4,h5,h6,h7,h8⟩:=Af h1 hs
 have:=Cv h1 i
 exact ⟨⟨n,h3,h4.trans h2,h5⟩,h7,h8,by omega,by omega⟩
section
variable {l:BoxLoom} {gs:List (List Int)} {V:Gd→Nat→Prop} {N:Int→Int→Int→Option (Int × Int)}
theorem Ph (hN : NxX gs V N) : ∀ (k : Nat) {pt : Gd} {t : Int}, Mp l pt.race → V pt k → (Yi (Th l 0) (Th l 1) (fun p s => f85 p gs s) k pt ≤ t ↔ Tj ≤ t ∨ ∃ o, Dj N k pt.group pt.done o ∧ cRX (Th l 0) (Th l 1) o pt.race ≤ t)
 | 0,pt,t,_,_=>by
  rw [Yi]
  constructor
  ·intro h; exact .inr ⟨[],rfl,by rw [cRX]; exact h⟩
  ·rintro (h | ⟨o, ho, h⟩)
   ·unfold Tj at h; omega
   ·rw [show o=[] from ho,cRX] at h; exact h
 | k + 1,pt,t,hr,hv=>by
  rw [Yi,cstS_mnX,Rg]
  constructor
  ·rintro (h | ⟨s, hs, v, h1, h2⟩)
   ·exact .inl h
   obtain ⟨r1,r2,_⟩:=hr.pk hs
   unfold cstFX at h1
   cases hn:N pt.group pt.done s.2.colour with
   | none=>
    obtain ⟨to,e⟩:=hN.no hv hn
    simp only [e] at h1; cases h1
   | some x=>
    obtain ⟨g,d⟩:=x
    have e:=hN.yes hv hn
    obtain ⟨to,b,e1,e2⟩:=hN.pts.step s.2 hv
    rw [e] at e1; cases e1
    obtain ⟨_,hv'⟩:=e2 rfl
    simp only [e,Option.some.injEq] at h1
    rcases (Ph hN k (pt:=⟨g,d,s.2.next⟩) (t:=t - s.2.moves) r1 hv').1 (by omega) with h | ⟨o',ho',h⟩
    ·exact .inl (by omega)
    ·refine .inr ⟨s.2.colour :: o', ⟨_, _, _, _, rfl, hn, ho'⟩, ?_⟩
     rw [cRX,Rg]
     exact .inr ⟨s,hs,_,by unfold Ex; rw [if_pos rfl],by simp only at h; omega⟩
  ·rintro (h | ⟨o, ⟨c, o', g', d', rfl, hn, ho'⟩, h⟩)
   ·exact .inl h
   rw [cRX,Rg] at h
   rcases h with h | ⟨s,hs,v,h1,h2⟩
   ·exact .inl h
   unfold Ex at h1
   split at h1
   ·rename_i hc
    subst hc
    obtain ⟨r1,r2,_⟩:=hr.pk hs
    have e:=hN.yes hv hn
    obtain ⟨to,b,e1,e2⟩:=hN.pts.step s.2 hv
    rw [e] at e1; cases e1
    obtain ⟨_,hv'⟩:=e2 rfl
    cases h1
    refine .inr ⟨s,hs,s.2.moves + Yi (Th l 0) (Th l 1) (fun p s=>f85 p gs s) k ⟨g',d',s.2.next⟩,by unfold cstFX; simp only [e],?_⟩
    have:=(Ph hN k (pt:=⟨g',d',s.2.next⟩) (t:=t - s.2.moves) r1 hv').2 (.inr ⟨o',ho',by show cRX _ _ o' s.2.next ≤ _; omega⟩)
    omega
   ·cases h1
end
section
variable {l:BoxLoom} {gs:List (List Int)} {V:Gd→Nat→Prop} {N:Int→Int→Int→Option (Int × Int)}
theorem Dl (hN:NxX gs V N) {k:Nat} {pt:Gd} {o:List Int} (hr:Mp l pt.race) (hv:V pt k) (ho:Dj N k pt.group pt.done o):Yi (Th l 0) (Th l 1) (fun p s=>f85 p gs s) k pt ≤ cRX (Th l 0) (Th l 1) o pt.race:=
 (Ph hN k hr hv).2 (.inr ⟨o,ho,Int.le_refl _⟩)
end
section
variable {l:BoxLoom} {gs:List (List Int)} {V:Gd→Nat→Prop} {N:Int→Int→Int→Option (Int × Int)}
theorem NxX.to (hN:NxX gs V N) {k:Nat} {pt:Gd} {s:Tg} {g d:Int} (hv:V pt (k + 1)) (hn:N pt.group pt.done s.colour=some (g,d)):V ⟨g,d,s.next⟩ k:=by
 have e:=hN.yes hv hn
 obtain ⟨to,b,e1,e2⟩:=hN.pts.step s hv
 rw [e] at e1; cases e1
 exact (e2 rfl).2
end
section
variable {l:BoxLoom} {gs:List (List Int)} {V:Gd→Nat→Prop} {N:Int→Int→Int→Option (Int × Int)}
theorem cst_stepX (hN : NxX gs V N) {k : Nat} {pt : Gd} {s : Gg × Tg} {g d : Int} (hv : V pt (k + 1)) (hs : s ∈ Rv (Th l 0) (Th l 1) pt.race) (hn : N pt.group pt.done s.2.colour = some (g, d)) :
  Yi (Th l 0) (Th l 1) (fun p s=>f85 p gs s) (k + 1) pt ≤ s.2.moves + Yi (Th l 0) (Th l 1) (fun p s=>f85 p gs s) k ⟨g,d,s.2.next⟩:=by
 rw [Yi,cstS_mnX,Rg]
 exact .inr ⟨s,hs,_,by unfold cstFX; simp only [hN.yes hv hn],Int.le_refl _⟩
end
section
variable {κ ν:Type} [DecidableEq κ]
theorem Nb {k : κ} {v : ν} : ∀ {m : List (κ × ν)}, k ∉ m.map (·.1) → Hf m k v = m ++ [(k, v)]
 | [],_=>rfl
 | p :: m,h=>by
  simp only [List.map_cons,List.mem_cons,not_or] at h
  rw [Hf,if_neg fun e=>h.1 e.symm,Nb h.2]; rfl
end
section
variable {κ ν:Type} [DecidableEq κ]
theorem Mf {k : κ} {v : ν} : ∀ {m : List (κ × ν)}, (m.map (·.1)).Nodup → (k, v) ∈ m → Hf m k v = m
 | [],_,h=>by cases h
 | p :: m,hn,h=>by
  rw [List.map_cons,List.nodup_cons] at hn
  rcases List.mem_cons.1 h with h | h
  ·subst h; rw [Hf,if_pos rfl]
  ·have hne : p.1 ≠ k := fun e => hn.1 (by rw [e]; exact List.mem_map.2 ⟨(k, v), h, rfl⟩)
   rw [Hf,if_neg hne,Mf hn.2 h]
end
section
variable {κ ν:Type} [DecidableEq κ]
def IsX (nx:List (Gd × Int)) (E:Gd→Int→Prop):Prop:=(nx.map (·.1)).Nodup∧∀ to v,(to,v) ∈ nx ↔ E to v
end
section
variable {κ ν:Type} [DecidableEq κ]
theorem IsX.nil:IsX [] fun _ _=>False:=⟨by simp,fun _ _=>by simp⟩
end
section
variable {κ ν:Type} [DecidableEq κ]
theorem IsX.congr {nx:List (Gd × Int)} {E E':Gd→Int→Prop} (h:IsX nx E) (k:∀ a b,E a b ↔ E' a b):IsX nx E':=⟨h.1,fun a b=>(h.2 a b).trans (k a b)⟩
end
section
variable {κ ν:Type} [DecidableEq κ]
theorem IsX.set {nx:List (Gd × Int)} {E:Gd→Int→Prop} {to:Gd} {v:Int} (h:IsX nx E) (hf:∀ v',E to v'→v'=v):IsX (Hf nx to v) fun a b=>E a b ∨ (a=to∧b=v):=by
 by_cases hk:to ∈ nx.map (·.1)
 ·obtain ⟨p, hp, he⟩ := List.mem_map.1 hk
  have h1:=(h.2 p.1 p.2).1 hp
  have h2:p.2=v:=hf p.2 (he ▸ h1)
  have hm:(to,v) ∈ nx:=by rw [← he,← h2]; exact hp
  rw [Mf h.1 hm]
  refine ⟨h.1,fun a b=>?_⟩
  rw [h.2]
  refine ⟨.inl,fun hh=>?_⟩
  rcases hh with hh | ⟨rfl,rfl⟩
  ·exact hh
  ·exact (h.2 _ _).1 hm
 ·rw [Nb hk]
  refine ⟨?_,fun a b=>?_⟩
  ·rw [List.map_append, List.nodup_append]
   refine ⟨h.1,by simp,fun a ha b hb=>?_⟩
   simp only [List.map_cons,List.map_nil,List.mem_singleton] at hb
   subst hb
   exact fun e=>hk (e ▸ ha)
  ·rw [List.mem_append,h.2,List.mem_singleton,Prod.mk.injEq]
end
section
variable {κ ν:Type} [DecidableEq κ]
def JX (C:Int→Gd→Int→Prop) (col:Int) (nxt:Option (List (Gd × Int))):Prop:=
 (nxt=none∧col=Tj∧∀ c to v,¬ C c to v) ∨ ∃ nx,nxt=some nx∧col < Tj∧(∃ to v,C col to v)∧(∀ c to v,C c to v→col ≤ c)∧IsX nx (C col)
end
section
variable {κ ν:Type} [DecidableEq κ]
variable {C C':Int→Gd→Int→Prop} {col:Int} {nxt:Option (List (Gd × Int))} {c v:Int} {to:Gd}
theorem JX.congr (h:JX C col nxt) (k:∀ a b d,C a b d ↔ C' a b d):JX C' col nxt:=by
 have e:C=C':=by funext a b d; exact propext (k a b d)
 rw [← e]; exact h
end
section
variable {κ ν:Type} [DecidableEq κ]
variable {C C':Int→Gd→Int→Prop} {col:Int} {nxt:Option (List (Gd × Int))} {c v:Int} {to:Gd}
theorem JX.skip (h:JX C col nxt) (hc:col < c) (h9:c < Tj):JX (fun a b d=>C a b d ∨ (a=c∧b=to∧d=v)) col nxt:=by
 rcases h with ⟨_,h,_⟩ | ⟨nx,h1,h2,⟨t0,v0,h3⟩,h4,h5⟩
 ·omega
 ·refine .inr ⟨nx, h1, h2, ⟨t0, v0, .inl h3⟩, fun a b d hh => ?_, h5.congr fun a b => ⟨.inl, fun hh => ?_⟩⟩
  ·rcases hh with hh | ⟨rfl, _⟩
   ·exact h4 _ _ _ hh
   ·omega
  ·rcases hh with hh | ⟨hh, _⟩
   ·exact hh
   ·omega
end
section
variable {κ ν:Type} [DecidableEq κ]
variable {C C':Int→Gd→Int→Prop} {col:Int} {nxt:Option (List (Gd × Int))} {c v:Int} {to:Gd}
theorem JX.less (h:JX C col nxt) (hc:c < col):JX (fun a b d=>C a b d ∨ (a=c∧b=to∧d=v)) c (some (Hf [] to v)):=by
 have hall:∀ a b d,C a b d→col ≤ a:=by
  rcases h with ⟨_,_,h⟩ | ⟨nx,_,_,_,h4,_⟩
  ·exact fun a b d hh=>absurd hh (h a b d)
  ·exact h4
 have hn:col ≤ Tj:=by
  rcases h with ⟨_,h,_⟩ | ⟨_,_,h,_⟩ <;> omega
 refine .inr ⟨_,rfl,by omega,⟨to,v,.inr ⟨rfl,rfl,rfl⟩⟩,fun a b d hh=>?_,(IsX.nil.set fun _ h=>h.elim).congr fun a b=>⟨fun hh=>?_,fun hh=>?_⟩⟩
 ·rcases hh with hh | ⟨rfl, _⟩
  ·have:=hall _ _ _ hh; omega
  ·exact Int.le_refl _
 ·rcases hh with hh | hh
  ·exact hh.elim
  ·exact .inr ⟨rfl,hh⟩
 ·rcases hh with hh | ⟨_, hh⟩
  ·have:=hall _ _ _ hh; omega
  ·exact .inr hh
end
section
variable {κ ν:Type} [DecidableEq κ]
variable {C C':Int→Gd→Int→Prop} {col:Int} {nxt:Option (List (Gd × Int))} {c v:Int} {to:Gd}
theorem JX.put (h:JX C c nxt) (h9:c < Tj) (hf:∀ v',C c to v'→v'=v):∃ nx,nxt=some nx∧JX (fun a b d=>C a b d ∨ (a=c∧b=to∧d=v)) c (some (Hf nx to v)):=by
 rcases h with ⟨_,h,_⟩ | ⟨nx,h1,h2,⟨t0,v0,h3⟩,h4,h5⟩
 ·omega
 ·refine ⟨nx, h1, .inr ⟨_, rfl, h2, ⟨t0, v0, .inl h3⟩, fun a b d hh => ?_, (h5.set hf).congr fun a b => ?_⟩⟩
  ·rcases hh with hh | ⟨rfl, _⟩
   ·exact h4 _ _ _ hh
   ·exact Int.le_refl _
  ·simp
end
section
variable {κ ν:Type} [DecidableEq κ]
variable {C C':Int→Gd→Int→Prop} {col:Int} {nxt:Option (List (Gd × Int))} {c v:Int} {to:Gd}
variable {l:BoxLoom} {gs:List (List Int)} {V:Gd→Nat→Prop} {N:Int→Int→Int→Option (Int × Int)}
noncomputable abbrev csX (l:BoxLoom) (gs:List (List Int)) (k:Nat) (pt:Gd):Int:=Yi (Th l 0) (Th l 1) (fun p s=>f85 p gs s) k pt
end
section
variable {κ ν:Type} [DecidableEq κ]
variable {C C':Int→Gd→Int→Prop} {col:Int} {nxt:Option (List (Gd × Int))} {c v:Int} {to:Gd}
variable {l:BoxLoom} {gs:List (List Int)} {V:Gd→Nat→Prop} {N:Int→Int→Int→Option (Int × Int)}
def EligX (l:BoxLoom) (gs:List (List Int)) (N:Int→Int→Int→Option (Int × Int)) (k:Nat) (M:Int) (e:Gd × Int) (s:Gg × Tg) (c:Int) (to:Gd) (v:Int):Prop:=
 c=s.2.colour∧N e.1.group e.1.done s.2.colour=some (to.group,to.done)∧to.race=s.2.next∧v=e.2 + s.2.moves∧v + csX l gs k to=M
end
section
variable {κ ν:Type} [DecidableEq κ]
variable {C C':Int→Gd→Int→Prop} {col:Int} {nxt:Option (List (Gd × Int))} {c v:Int} {to:Gd}
variable {l:BoxLoom} {gs:List (List Int)} {V:Gd→Nat→Prop} {N:Int→Int→Int→Option (Int × Int)}
def Ej (l:BoxLoom) (gs:List (List Int)) (N:Int→Int→Int→Option (Int × Int)) (k:Nat) (M:Int) (e:Gd × Int) (ss:List (Gg × Tg)) (c:Int) (to:Gd) (v:Int):Prop:=∃ s ∈ ss,EligX l gs N k M e s c to v
end
section
variable {κ ν:Type} [DecidableEq κ]
variable {C C':Int→Gd→Int→Prop} {col:Int} {nxt:Option (List (Gd × Int))} {c v:Int} {to:Gd}
variable {l:BoxLoom} {gs:List (List Int)} {V:Gd→Nat→Prop} {N:Int→Int→Int→Option (Int × Int)}
def Fj (l:BoxLoom) (gs:List (List Int)) (N:Int→Int→Int→Option (Int × Int)) (k:Nat) (M:Int) (P:List (Gd × Int)) (c:Int) (to:Gd) (v:Int):Prop:=∃ e ∈ P,Ej l gs N k M e (Rv (Th l 0) (Th l 1) e.1.race) c to v
end
section
variable {κ ν:Type} [DecidableEq κ]
variable {C C':Int→Gd→Int→Prop} {col:Int} {nxt:Option (List (Gd × Int))} {c v:Int} {to:Gd}
variable {l:BoxLoom} {gs:List (List Int)} {V:Gd→Nat→Prop} {N:Int→Int→Int→Option (Int × Int)}
theorem Ej.sum {k:Nat} {M:Int} {e:Gd × Int} {ss:List (Gg × Tg)} {c v:Int} {to:Gd} (h:Ej l gs N k M e ss c to v):v + csX l gs k to=M:=by obtain ⟨s,_,h⟩:=h; exact h.2.2.2.2
end
section
variable {κ ν:Type} [DecidableEq κ]
variable {C C':Int→Gd→Int→Prop} {col:Int} {nxt:Option (List (Gd × Int))} {c v:Int} {to:Gd}
variable {l:BoxLoom} {gs:List (List Int)} {V:Gd→Nat→Prop} {N:Int→Int→Int→Option (Int × Int)}
theorem Fj.sum {k:Nat} {M:Int} {P:List (Gd × Int)} {c v:Int} {to:Gd} (h:Fj l gs N k M P c to v):v + csX l gs k to=M:=by obtain ⟨e,_,h⟩:=h; exact h.sum
end
section
variable {κ ν:Type} [DecidableEq κ]
variable {C C':Int→Gd→Int→Prop} {col:Int} {nxt:Option (List (Gd × Int))} {c v:Int} {to:Gd}
variable {l:BoxLoom} {gs:List (List Int)} {V:Gd→Nat→Prop} {N:Int→Int→Int→Option (Int × Int)}
theorem Dg {α:Type} {xs:List α} {i:Nat} (h:i < xs.length) {x:α}:x ∈ xs.take (i + 1) ↔ x ∈ xs.take i ∨ x=xs[i]:=by
 rw [List.take_succ_eq_append_getElem h,List.mem_append,List.mem_singleton]
end
end Go.Proofs.YtlmibfohllgmeaaGreat
