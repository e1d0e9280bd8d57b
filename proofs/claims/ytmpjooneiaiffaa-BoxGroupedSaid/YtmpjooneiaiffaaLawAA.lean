/- Plain laws: the fewest box moves of an order of colours, by the reference. -/
import Derived.Test.YtmpjooneiaiffaaLawZ
set_option maxRecDepth 8000
namespace Go.Proofs.Ytmpjooneiaiffaa
open Go.RowKit
open Classical

noncomputable def Um (l:BoxLoom) (c:Int) (F:BoxLoom→Int) (b:Int) (p:Gf):Int:=match Ka l p with | some x=>if Qy l x.2.1=c then min b (x.2.2 + F x.1) else b | none=>b
noncomputable def cL : List Int → BoxLoom → Int
 | [],_=>0
 | c :: cs,l=>(Wx l).foldl (Um l c (fun n=>cL cs n)) Ti
noncomputable def rfS (l:BoxLoom) (c:Int) (k:Int) (F:BoxLoom→List Gf × Int × Int) (s:List Gf × Int × Int × Bool) (p:Gf):List Gf × Int × Int × Bool:=
 match Ka l p with
 | some x => if Qy l x.2.1 = c then
   (if (F x.1).2.2=k∧(s.2.2.2=false ∨ x.2.2 + (F x.1).2.1 < s.2.1) then (p :: (F x.1).1,x.2.2 + (F x.1).2.1,max s.2.2.1 (1 + (F x.1).2.2),true) else (s.1,s.2.1,max s.2.2.1 (1 + (F x.1).2.2),s.2.2.2))
  else s
 | none=>s
noncomputable def rf : List Int → BoxLoom → List Gf × Int × Int
 | [],_=>([],0,0)
 | c :: cs,l=>(fun s=>(s.1,s.2.1,s.2.2.1)) ((Wx l).foldl (rfS l c (cs.length:Int) (fun n=>rf cs n)) ([],0,0,false))
def Wv (l:BoxLoom) (c:Int) (p:Gf) (x:BoxLoom × Nat × Int):Prop:=Ka l p=some x∧Qy l x.2.1=c
theorem Ai {l:BoxLoom} (hl:LOk l) {c:Int} {p:Gf} (hp:p ∈ Wx l) {x:BoxLoom × Nat × Int} (h:Wv l c p x):LOk x.1∧x.1.Boxes=l.Boxes∧0 ≤ x.2.2∧x.2.2 ≤ 6:=by
 obtain ⟨n,i,m⟩:=x
 obtain ⟨h1,h2,_,_,h5,h6⟩:=Ja hl ((Ys hl).1 hp) h.1
 exact ⟨h1,h2,h5,h6⟩
theorem Wv.one {l:BoxLoom} {c:Int} {p:Gf} {x y:BoxLoom × Nat × Int} (h:Wv l c p x) (k:Wv l c p y):x=y:=Option.some.inj (h.1.symm.trans k.1)
theorem Xi (l:BoxLoom) (c:Int) (F:BoxLoom→Int) (b:Int) (p:Gf):(∃ x,Wv l c p x∧Um l c F b p=min b (x.2.2 + F x.1)) ∨ ((∀ x,¬ Wv l c p x)∧Um l c F b p=b):=by
 unfold Um Wv
 cases ho:Ka l p with
 | none=>exact .inr ⟨fun x h=>(by cases h.1),rfl⟩
 | some x=>
  by_cases hc:Qy l x.2.1=c
  ·exact .inl ⟨x,⟨rfl,hc⟩,by simp only [if_pos hc]⟩
  ·exact .inr ⟨fun y h=>hc (by rw [Option.some.inj h.1]; exact h.2),by simp only [if_neg hc]⟩
theorem Cu {l : BoxLoom} {c : Int} {F : BoxLoom → Int} {t : Int} : ∀ (xs : List Gf) (b : Int), xs.foldl (Um l c F) b < t ↔ b < t ∨ ∃ q ∈ xs, ∃ x, Wv l c q x ∧ x.2.2 + F x.1 < t
 | [],b=>by simp
 | p :: xs,b=>by
  rw [List.foldl_cons,Cu xs]
  rcases Xi l c F b p with ⟨x,hx,e⟩ | ⟨hn,e⟩
  ·rw [e]
   constructor
   ·rintro (h | ⟨q, hq, h⟩)
    ·by_cases hb : b < t
     ·exact .inl hb
     ·exact .inr ⟨p,by simp,x,hx,by omega⟩
    ·exact .inr ⟨q,by simp [hq],h⟩
   ·rintro (h | ⟨q, hq, y, hy, h⟩)
    ·exact .inl (by omega)
    ·rcases List.mem_cons.1 hq with rfl | hq
     ·rw [hx.one hy]; exact .inl (by omega)
     ·exact .inr ⟨q,hq,y,hy,h⟩
  ·rw [e]
   constructor
   ·rintro (h | ⟨q, hq, h⟩)
    ·exact .inl h
    ·exact .inr ⟨q,by simp [hq],h⟩
   ·rintro (h | ⟨q, hq, y, hy, h⟩)
    ·exact .inl h
    ·rcases List.mem_cons.1 hq with rfl | hq
     ·exact absurd hy (hn y)
     ·exact .inr ⟨q,hq,y,hy,h⟩
theorem Lk : ∀ (cs : List Int) {l : BoxLoom}, LOk l → cs.length ≤ 1000 → 0 ≤ cL cs l ∧ (cL cs l = Ti ∨ cL cs l ≤ 6 * cs.length)
 | [],l,_,_=>by rw [cL]; simp
 | c :: cs,l,hl,hlen=>by
  rw [cL]
  simp only [List.length_cons] at hlen ⊢
  have key:∀ (xs:List Gf) (b:Int),(∀ x ∈ xs,x ∈ Wx l)→0 ≤ b∧(b=Ti ∨ b ≤ 6 * ((cs.length + 1:Nat):Int))→0 ≤ xs.foldl (Um l c (fun n=>cL cs n)) b∧(xs.foldl (Um l c (fun n=>cL cs n)) b=Ti ∨ xs.foldl (Um l c (fun n=>cL cs n)) b ≤ 6 * ((cs.length + 1:Nat):Int)):=fun xs=>by
   induction xs with
   | nil=>intro b _ h; exact h
   | cons p xs ih=>
    intro b hm hb
    rw [List.foldl_cons]
    refine ih _ (fun y hy=>hm y (by simp [hy])) ?_
    rcases Xi l c (fun n=>cL cs n) b p with ⟨x,hx,e⟩ | ⟨_,e⟩
    ·obtain ⟨h1, _, h3, h4⟩ := Ai hl (hm p (by simp)) hx
     have:=Lk cs h1 (by omega)
     rw [e]; unfold Ti at *; omega
    ·rw [e]; exact hb
  exact key _ _ (fun x hx=>hx) ⟨by unfold Ti; omega,.inl rfl⟩
structure RfI (l : BoxLoom) (c : Int) (cs : List Int) (xs : List Gf) (s : List Gf × Int × Int × Bool) : Prop where
 no:s.2.2.2=false→xs.foldl (Um l c (fun n=>cL cs n)) Ti=Ti
 yes:s.2.2.2=true→xs.foldl (Um l c (fun n=>cL cs n)) Ti < Ti∧s.2.1=xs.foldl (Um l c (fun n=>cL cs n)) Ti∧∃ x1 p x2 x,xs=x1 ++ p :: x2∧Wv l c p x∧x.2.2 + cL cs x.1=s.2.1∧s.1=p :: (rf cs x.1).1∧∀ q ∈ x1,∀ y,Wv l c q y→s.2.1 < y.2.2 + cL cs y.1
 far:0 ≤ s.2.2.1∧s.2.2.1 ≤ (cs.length:Int) + 1∧∀ k:Nat,(k:Int) + 1 ≤ s.2.2.1 ↔ ∃ q ∈ xs,∃ x,Wv l c q x∧(k:Int) ≤ (rf cs x.1).2.2
structure Mo (cs : List Int) (l : BoxLoom) : Prop where
 far:0 ≤ (rf cs l).2.2∧(rf cs l).2.2 ≤ cs.length
 pre:∀ k:Nat,k ≤ cs.length→(cL (cs.take k) l < Ti ↔ (k:Int) ≤ (rf cs l).2.2)
 mv:cL cs l < Ti→(rf cs l).2.1=cL cs l
 bd:0 ≤ (rf cs l).2.1∧(rf cs l).2.1 ≤ 6 * cs.length∧(rf cs l).1.length ≤ cs.length
theorem Mo.all {cs:List Int} {l:BoxLoom} (h:Mo cs l):cL cs l < Ti ↔ (rf cs l).2.2=cs.length:=by
 have:=h.pre cs.length (Nat.le_refl _)
 rw [List.take_length] at this
 have h2:=h.far
 omega
theorem Ah (l : BoxLoom) (c k : Int) (F : BoxLoom → List Gf × Int × Int) (s : List Gf × Int × Int × Bool) (p : Gf) :
  (∃ x,Wv l c p x∧rfS l c k F s p=if (F x.1).2.2=k∧(s.2.2.2=false ∨ x.2.2 + (F x.1).2.1 < s.2.1) then (p :: (F x.1).1,x.2.2 + (F x.1).2.1,max s.2.2.1 (1 + (F x.1).2.2),true) else (s.1,s.2.1,max s.2.2.1 (1 + (F x.1).2.2),s.2.2.2)) ∨ ((∀ x,¬ Wv l c p x)∧rfS l c k F s p=s):=by
 unfold rfS Wv
 cases ho:Ka l p with
 | none=>exact .inr ⟨fun x h=>(by cases h.1),rfl⟩
 | some x=>
  by_cases hc:Qy l x.2.1=c
  ·exact .inl ⟨x,⟨rfl,hc⟩,by simp only [if_pos hc]⟩
  ·exact .inr ⟨fun y h=>hc (by rw [Option.some.inj h.1]; exact h.2),by simp only [if_neg hc]⟩
theorem rf_bd {l : BoxLoom} (hl : LOk l) {c : Int} {cs : List Int} (hF : ∀ n, LOk n → Mo cs n) : ∀ (xs : List Gf) (s : List Gf × Int × Int × Bool), (∀ p ∈ xs, p ∈ Wx l) → 0 ≤ s.2.1 ∧ s.2.1 ≤ 6 * ((cs.length : Int) + 1) ∧ s.1.length ≤ cs.length + 1 →
  0 ≤ (xs.foldl (rfS l c (cs.length:Int) (fun n=>rf cs n)) s).2.1∧(xs.foldl (rfS l c (cs.length:Int) (fun n=>rf cs n)) s).2.1 ≤ 6 * ((cs.length:Int) + 1)∧(xs.foldl (rfS l c (cs.length:Int) (fun n=>rf cs n)) s).1.length ≤ cs.length + 1
 | [],s,_,h=>h
 | p :: xs,s,hm,h=>by
  rw [List.foldl_cons]
  refine rf_bd hl hF xs _ (fun q hq=>hm q (by simp [hq])) ?_
  rcases Ah l c (cs.length:Int) (fun n=>rf cs n) s p with ⟨x,hx,e⟩ | ⟨_,e⟩
  ·obtain ⟨h1, _, h3, h4⟩ := Ai hl (hm p (by simp)) hx
   have hb:=(hF x.1 h1).bd
   rw [e]
   split
   ·simp only [List.length_cons]; omega
   ·exact h
  ·rw [e]; exact h
theorem rf_step {l:BoxLoom} (hl:LOk l) {c:Int} {cs:List Int} (hlen:cs.length ≤ 1000) (hF:∀ n,LOk n→Mo cs n) {xs:List Gf} {p:Gf} (hp:p ∈ Wx l) {s:List Gf × Int × Int × Bool} (h:RfI l c cs xs s):RfI l c cs (xs ++ [p]) (rfS l c (cs.length:Int) (fun n=>rf cs n) s p):=by
 obtain ⟨hno,hyes,f0,f1,f2⟩:=h
 rcases Ah l c (cs.length:Int) (fun n=>rf cs n) s p with ⟨x,hx,e⟩ | ⟨hn,e⟩
 ·obtain ⟨h1, _, h3, h4⟩ := Ai hl hp hx
  have hr:=hF x.1 h1
  have hc:=Lk cs h1 hlen
  have hfold:(xs ++ [p]).foldl (Um l c (fun n=>cL cs n)) Ti=min (xs.foldl (Um l c (fun n=>cL cs n)) Ti) (x.2.2 + cL cs x.1):=by
   rw [List.foldl_append,List.foldl_cons,List.foldl_nil]
   rcases Xi l c (fun n=>cL cs n) (xs.foldl (Um l c (fun n=>cL cs n)) Ti) p with ⟨y,hy,e2⟩ | ⟨hn,_⟩
   ·rw [e2,hx.one hy]
   ·exact absurd hx (hn x)
  have hfar:∀ k:Nat,(k:Int) + 1 ≤ max s.2.2.1 (1 + (rf cs x.1).2.2) ↔ ∃ q ∈ xs ++ [p],∃ x,Wv l c q x∧(k:Int) ≤ (rf cs x.1).2.2:=fun k=>by
   constructor
   ·intro hk
    by_cases hks:(k:Int) + 1 ≤ s.2.2.1
    ·obtain ⟨q, hq, y, hy, hk2⟩ := (f2 k).1 hks
     exact ⟨q,by simp [hq],y,hy,hk2⟩
    ·exact ⟨p,by simp,x,hx,by omega⟩
   ·rintro ⟨q, hq, y, hy, hk2⟩
    rcases List.mem_append.1 hq with hq | hq
    ·have:=(f2 k).2 ⟨q,hq,y,hy,hk2⟩; omega
    ·rw [List.mem_singleton.1 hq] at hy
     rw [hx.one hy]; omega
  have hff:=hr.far
  rw [e]
  split
  ·rename_i hcond
   obtain ⟨c1,c2⟩:=hcond
   have hlt:=hr.all.2 c1
   have hmv:=hr.mv hlt
   refine ⟨fun hf=>(by cases hf),fun _=>?_,⟨by show 0 ≤ max _ _; omega,by show max _ _ ≤ _; omega,hfar⟩⟩
   have hval:x.2.2 + cL cs x.1 < xs.foldl (Um l c (fun n=>cL cs n)) Ti:=by
    rcases c2 with c2 | c2
    ·rw [hno c2]; unfold Ti at *; omega
    ·by_cases hfd : s.2.2.2 = true
     ·obtain ⟨y1, y2, _⟩ := hyes hfd
      rw [← y2]; simp only [hmv] at c2; exact c2
     ·rw [hno (by simpa using hfd)]; unfold Ti at *; omega
   have hlt2:xs.foldl (Um l c (fun n=>cL cs n)) Ti ≤ Ti:=by
    rcases Int.lt_or_le Ti (xs.foldl (Um l c (fun n=>cL cs n)) Ti) with hh | hh
    ·by_cases hfd : s.2.2.2 = true
     ·have:=(hyes hfd).1; omega
     ·rw [hno (by simpa using hfd)] at hh; omega
    ·exact hh
   rw [hfold]
   refine ⟨by omega,?_,xs,p,[],x,rfl,hx,?_,rfl,fun q hq y hy=>?_⟩
   ·show x.2.2 + (rf cs x.1).2.1=_; rw [hmv]; omega
   ·show _=x.2.2 + (rf cs x.1).2.1; rw [hmv]
   ·show x.2.2 + (rf cs x.1).2.1 < _
    rw [hmv]
    have:¬ (y.2.2 + cL cs y.1 < xs.foldl (Um l c (fun n=>cL cs n)) Ti∧False):=fun h=>h.2
    rcases Int.lt_or_le (x.2.2 + cL cs x.1) (y.2.2 + cL cs y.1) with hh | hh
    ·exact hh
    ·have := (Cu (l := l) (c := c) (F := fun n => cL cs n) (t := x.2.2 + cL cs x.1 + 1) xs Ti).2 (.inr ⟨q, hq, y, hy, by show y.2.2 + cL cs y.1 < _; omega⟩)
     omega
  ·rename_i hcond
   refine ⟨fun hf=>?_,fun hf=>?_,⟨by show 0 ≤ max _ _; omega,by show max _ _ ≤ _; omega,hfar⟩⟩
   ·have hf : s.2.2.2 = false := hf
    rw [hfold,hno hf]
    have:cL cs x.1=Ti:=by
     rcases hc.2 with h | h
     ·exact h
     ·exact absurd ⟨hr.all.1 (by unfold Ti; omega),.inl hf⟩ hcond
    omega
   ·have hf : s.2.2.2 = true := hf
    obtain ⟨y1,y2,x1,p1,x2,x',z1,z2,z3,z4,z5⟩:=hyes hf
    have hge:xs.foldl (Um l c (fun n=>cL cs n)) Ti ≤ x.2.2 + cL cs x.1:=by
     rcases Int.lt_or_le (cL cs x.1) Ti with hlt | hge
     ·have hcm : ¬ (x.2.2 + (rf cs x.1).2.1 < s.2.1) := fun hh => hcond ⟨hr.all.1 hlt, .inr hh⟩
      rw [hr.mv hlt] at hcm; omega
     ·omega
    rw [hfold,Int.min_eq_left hge]
    exact ⟨y1,y2,x1,p1,x2 ++ [p],x',by rw [z1]; simp,z2,z3,z4,z5⟩
 ·have hfold:(xs ++ [p]).foldl (Um l c (fun n=>cL cs n)) Ti=xs.foldl (Um l c (fun n=>cL cs n)) Ti:=by
   rw [List.foldl_append,List.foldl_cons,List.foldl_nil]
   rcases Xi l c (fun n=>cL cs n) (xs.foldl (Um l c (fun n=>cL cs n)) Ti) p with ⟨y,hy,_⟩ | ⟨_,e2⟩
   ·exact absurd hy (hn y)
   ·exact e2
  rw [e]
  refine ⟨fun hf=>by rw [hfold]; exact hno hf,fun hf=>?_,f0,f1,fun k=>(f2 k).trans ⟨fun ⟨q,hq,h⟩=>⟨q,by simp [hq],h⟩,fun ⟨q,hq,y,hy,h⟩=>?_⟩⟩
  ·obtain ⟨y1, y2, x1, p1, x2, x', z1, z2, z3, z4, z5⟩ := hyes hf
   rw [hfold]
   exact ⟨y1,y2,x1,p1,x2 ++ [p],x',by rw [z1]; simp,z2,z3,z4,z5⟩
  ·rcases List.mem_append.1 hq with hq | hq
   ·exact ⟨q,hq,y,hy,h⟩
   ·rw [List.mem_singleton.1 hq] at hy; exact absurd hy (hn y)
theorem Mm {l : BoxLoom} (hl : LOk l) {c : Int} {cs : List Int} (hlen : cs.length ≤ 1000) (hF : ∀ n, LOk n → Mo cs n) : ∀ (ys xs : List Gf) (s : List Gf × Int × Int × Bool), (∀ p ∈ ys, p ∈ Wx l) → RfI l c cs xs s → RfI l c cs (xs ++ ys) (ys.foldl (rfS l c (cs.length : Int) (fun n => rf cs n)) s)
 | [],xs,s,_,h=>by rw [List.append_nil]; exact h
 | p :: ys,xs,s,hm,h=>by
  rw [List.foldl_cons,show xs ++ p :: ys=(xs ++ [p]) ++ ys by simp]
  exact Mm hl hlen hF ys _ _ (fun q hq=>hm q (by simp [hq])) (rf_step hl hlen hF (hm p (by simp)) h)
theorem rf_I {l:BoxLoom} (hl:LOk l) {c:Int} {cs:List Int} (hlen:cs.length ≤ 1000) (hF:∀ n,LOk n→Mo cs n):RfI l c cs (Wx l) ((Wx l).foldl (rfS l c (cs.length:Int) (fun n=>rf cs n)) ([],0,0,false)):=
 Mm hl hlen hF (Wx l) [] _ (fun p hp=>hp) ⟨fun _=>rfl,fun h=>(by cases h),by simp,by show (0:Int) ≤ _; omega,fun k=>⟨fun h=>by have h:(k:Int) + 1 ≤ 0:=h; omega,fun ⟨q,hq,_⟩=>by cases hq⟩⟩
theorem Av : ∀ (cs : List Int), cs.length ≤ 1000 → ∀ {l : BoxLoom}, LOk l → Mo cs l
 | [],_,l,_=>⟨by rw [rf]; simp,fun k hk=>by
   have:k=0:=by simpa using hk
   subst this; rw [rf,List.take_nil,cL]; unfold Ti; simp,fun _=>by rw [rf,cL],by rw [rf]; simp⟩
 | c :: cs,hlen,l,hl=>by
  simp only [List.length_cons] at hlen
  have hF:∀ n,LOk n→Mo cs n:=fun n hn=>Av cs (by omega) hn
  obtain ⟨hno,hyes,f0,f1,f2⟩:=rf_I hl (c:=c) (by omega) hF
  have hbd:=rf_bd hl (c:=c) hF (Wx l) ([],0,0,false) (fun p hp=>hp) ⟨by simp,by simp; omega,by simp⟩
  have e1:(rf (c :: cs) l).1=((Wx l).foldl (rfS l c (cs.length:Int) (fun n=>rf cs n)) ([],0,0,false)).1:=by rw [rf]
  have e2:(rf (c :: cs) l).2.1=((Wx l).foldl (rfS l c (cs.length:Int) (fun n=>rf cs n)) ([],0,0,false)).2.1:=by rw [rf]
  have e3:(rf (c :: cs) l).2.2=((Wx l).foldl (rfS l c (cs.length:Int) (fun n=>rf cs n)) ([],0,0,false)).2.2.1:=by rw [rf]
  refine ⟨by rw [e3]; simp only [List.length_cons]; omega,fun k hk=>?_,fun hlt=>?_,by rw [e1,e2]; simp only [List.length_cons]; omega⟩
  ·rw [e3]
   cases k with
   | zero=>rw [List.take_zero,cL]; unfold Ti; simp; omega
   | succ k=>
    simp only [List.length_cons] at hk
    rw [List.take_succ_cons,cL,Cu]
    rw [show (((k + 1:Nat):Int))=(k:Int) + 1 by simp,f2 k]
    constructor
    ·rintro (h | ⟨q, hq, x, hx, h⟩)
     ·exact absurd h (Int.lt_irrefl _)
     ·obtain ⟨h1, _, h3, _⟩ := Ai hl hq hx
      exact ⟨q,hq,x,hx,((hF _ h1).pre k (by omega)).1 (by omega)⟩
    ·rintro ⟨q, hq, x, hx, h⟩
     obtain ⟨h1,_,h3,h4⟩:=Ai hl hq hx
     have hlt:=((hF _ h1).pre k (by omega)).2 h
     have hr:=Lk (cs.take k) h1 (by simp; omega)
     refine .inr ⟨q,hq,x,hx,?_⟩
     have:(cs.take k).length ≤ 1000:=by simp; omega
     unfold Ti at *
     omega
  ·have hfd:((Wx l).foldl (rfS l c (cs.length:Int) (fun n=>rf cs n)) ([],0,0,false)).2.2.2=true:=by
    cases hb:((Wx l).foldl (rfS l c (cs.length:Int) (fun n=>rf cs n)) ([],0,0,false)).2.2.2 with
    | true=>rfl
    | false=>rw [cL,hno hb] at hlt; exact absurd hlt (Int.lt_irrefl _)
   rw [e2,(hyes hfd).2.1,cL]
theorem rf_first {c : Int} {cs : List Int} (hlen : cs.length ≤ 1000) {l : BoxLoom} (hl : LOk l) (hlt : cL (c :: cs) l < Ti) :
  ∃ x1 p x2 x,Wx l=x1 ++ p :: x2∧Wv l c p x∧x.2.2 + cL cs x.1=cL (c :: cs) l∧(rf (c :: cs) l).1=p :: (rf cs x.1).1∧∀ q ∈ x1,∀ y,Wv l c q y→cL (c :: cs) l < y.2.2 + cL cs y.1:=by
 obtain ⟨hno,hyes,_⟩:=rf_I hl (c:=c) hlen fun n hn=>Av cs hlen hn
 have hfd:((Wx l).foldl (rfS l c (cs.length:Int) (fun n=>rf cs n)) ([],0,0,false)).2.2.2=true:=by
  cases hb:((Wx l).foldl (rfS l c (cs.length:Int) (fun n=>rf cs n)) ([],0,0,false)).2.2.2 with
  | true=>rfl
  | false=>rw [cL,hno hb] at hlt; exact absurd hlt (Int.lt_irrefl _)
 obtain ⟨_,y2,x1,p,x2,x,z1,z2,z3,z4,z5⟩:=hyes hfd
 have:((Wx l).foldl (rfS l c (cs.length:Int) (fun n=>rf cs n)) ([],0,0,false)).2.1=cL (c :: cs) l:=by rw [y2,cL]
 exact ⟨x1,p,x2,x,z1,z2,by rw [z3,this],by rw [rf]; exact z4,fun q hq y hy=>by rw [← this]; exact z5 q hq y hy⟩
end Go.Proofs.Ytmpjooneiaiffaa
