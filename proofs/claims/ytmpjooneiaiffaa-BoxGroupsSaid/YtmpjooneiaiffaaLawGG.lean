/- BoxGroups: the plain law. -/
import Derived.Test.YtmpjooneiaiffaaLawGF
set_option maxRecDepth 8000
namespace Go.Proofs.Ytmpjooneiaiffaa
open Go.RowKit
open Classical

theorem Lx.refl : ∀ a : List Int, Lx a a
 | []=>trivial
 | _ :: a=>.inr ⟨rfl,Lx.refl a⟩
theorem Lx.total : ∀ {a b : List Int}, a.length = b.length → Lx a b ∨ Lx b a
 | [],_,_=>.inl trivial
 | _ :: _,[],h=>by simp at h
 | x :: a,y :: b,h=>by
  rcases Int.lt_trichotomy x y with h1 | h1 | h1
  ·exact .inl (.inl h1)
  ·subst h1
   rcases Lx.total (a:=a) (b:=b) (by simpa using h) with h2 | h2
   ·exact .inl (.inr ⟨rfl,h2⟩)
   ·exact .inr (.inr ⟨rfl,h2⟩)
  ·exact .inr (.inl h1)
theorem Lx.trans : ∀ {a b c : List Int}, Lx a b → Lx b c → a.length = b.length → Lx a c
 | [],_,_,_,_,_=>trivial
 | _ :: _,[],_,h,_,_=>h.elim
 | _ :: _,_ :: _,[],_,h,_=>h.elim
 | x :: a,y :: b,z :: c,h1,h2,h=>by
  rcases h1 with h1 | ⟨rfl,h1⟩
  ·rcases h2 with h2 | ⟨rfl, _⟩
   ·exact .inl (by omega)
   ·exact .inl h1
  ·rcases h2 with h2 | ⟨rfl, h2⟩
   ·exact .inl h2
   ·exact .inr ⟨rfl,Lx.trans h1 h2 (by simpa using h)⟩
theorem Lx.app : ∀ (c : List Int) {a b : List Int}, Lx (c ++ a) (c ++ b) ↔ Lx a b
 | [],_,_=>Iff.rfl
 | x :: c,a,b=>by
  constructor
  ·rintro (h | ⟨_, h⟩)
   ·omega
   ·exact (Lx.app c).1 h
  ·intro h; exact .inr ⟨rfl,(Lx.app c).2 h⟩
theorem s69 {a b:List Int} (h:a.length=b.length) (hl:a.length ≤ 1000):f69 a b=some (decide (¬ Lx b a)):=by
 refine Yes.eq ?_
 unfold f69
 refine Yes.jn (Yes.upto0 a.length (by omega) (fun i=>a.take i=b.take i) (by simp) (fun i k hi hI hk=>?_) (fun k hI=>?_))
 ·have hib : i < b.length := by omega
  refine Yes.jn (Qw (decide_eq_true (by omega)) (Yes.jn (Gp _ (qidx hi) (Gp _ (qidx hib) (Yes.cond (fun hc=>?_) (fun hc=>hk ?_))))))
  ·have hne : a[i] ≠ b[i] := by simpa using hc
   refine Gp _ (qidx hi) (Gp _ (qidx hib) (Yes.some ?_))
   congr 1
   have e1:a=a.take i ++ a[i] :: a.drop (i + 1):=by rw [← List.drop_eq_getElem_cons hi,List.take_append_drop]
   have e2:b=a.take i ++ b[i] :: b.drop (i + 1):=by rw [hI,← List.drop_eq_getElem_cons hib,List.take_append_drop]
   have e3:Lx b a ↔ b[i] < a[i]:=by
    conv=>lhs; rw [e1,e2]
    rw [Lx.app]
    exact ⟨fun hh=>hh.elim id fun hh=>absurd hh.1.symm hne,.inl⟩
   rw [e3]
   exact propext ⟨fun hh=>by omega,fun hh=>by omega⟩
  ·have he : a[i] = b[i] := by simpa using hc
   rw [List.take_succ_eq_append_getElem hi,List.take_succ_eq_append_getElem hib,hI,he]
 ·have he : a = b := by rw [List.take_length, h, List.take_length] at hI; exact hI
  refine Yes.jn (Qi (decide_eq_false (by omega)) (Yes.some ?_))
  rw [he]; exact (decide_eq_false (fun hh=>hh (Lx.refl b))).symm
section
variable {l:BoxLoom} {gs:List (List Int)}
theorem s27 (hl : LOk l) (hg : gs.length ≤ 8) (h3 : ∀ g ∈ gs, g.length ≤ 3) (h4 : gs.flatten.length ≤ 4) :
  Yes (f27 l gs) fun r=>(r.2.2=true→Best l gs r.1 r.2.1)∧(r.2.2=false→∀ o,OsG gs o→Tx ≤ cL o l):=by
 unfold f27
 refine Yes.bind ((s68 hg h3 h4).mono fun os hos=>?_)
 obtain ⟨o1,o2⟩:=hos
 refine Yes.bind (Yes.mono (Q':=fun r:List Int × Int × Bool=>(r.2.2=true→Best l gs r.1 r.2.1)∧(r.2.2=false→∀ o,OsG gs o→Tx ≤ cL o l)) ?_ fun r hr=>Yes.some hr)
 refine Yes.lp (fun s=>∃ i:Nat,s.2.2.2=i∧i ≤ os.length∧(s.2.2.1=false→∀ o ∈ os.take i,Tx ≤ cL o l)∧(s.2.2.1=true→OsG gs s.1∧cL s.1 l=s.2.1∧s.2.1 < Tx∧∀ o ∈ os.take i,s.2.1 ≤ cL o l∧(cL o l=s.2.1→Lx s.1 o))) (fun s=>os.length - s.2.2.2.toNat) ⟨0,rfl,Nat.zero_le _,fun _ o ho=>by simp at ho,fun h=>by cases h⟩ (by simp only; omega) ?_
 rintro ⟨best,mv,fd,u⟩ k ⟨i,hu,hi,hn,hy⟩ hk
 simp only at hu hn hy
 subst hu
 by_cases hlt:i < os.length
 ·have hO := (o2 _).1 (List.getElem_mem hlt)
  have hlen:=hO.len
  have hR:=rf_ok os[i] (by omega) hl
  have hw:w64 ((i:Int) + 1)=((i + 1:Nat):Int):=by rw [Wi (by omega) (by omega)]; omega
  have hdec:os.length - (i + 1) < os.length - i:=by omega
  refine Yes.jn (Qw (decide_eq_true (by omega)) ?_)
  -- it stays as it is
  have stay:(fd=false→Tx ≤ cL os[i] l)→(fd=true→mv ≤ cL os[i] l∧(cL os[i] l=mv→Lx best os[i]))→Yes (k (best,mv,fd,w64 ((i:Int) + 1))) _:=fun a1 a2=>by
   rw [hw]
   refine hk _ ⟨i + 1,rfl,hlt,fun hf o ho=>?_,fun hf=>⟨(hy hf).1,(hy hf).2.1,(hy hf).2.2.1,fun o ho=>?_⟩⟩ hdec
   ·rw [take_succ hlt] at ho
    rcases List.mem_append.1 ho with ho | ho
    ·exact hn hf o ho
    ·rw [List.mem_singleton.1 ho]; exact a1 hf
   ·rw [take_succ hlt] at ho
    rcases List.mem_append.1 ho with ho | ho
    ·exact (hy hf).2.2.2 o ho
    ·rw [List.mem_singleton.1 ho]; exact a2 hf
  have take:cL os[i] l < Tx→(fd=true→∀ o ∈ os.take i,cL os[i] l ≤ cL o l∧(cL o l=cL os[i] l→Lx os[i] o))→Yes (k (os[i],cL os[i] l,true,w64 ((i:Int) + 1))) _:=fun a1 a2=>by
   rw [hw]
   refine hk _ ⟨i + 1,rfl,hlt,fun hf=>(by cases hf),fun _=>⟨hO,rfl,a1,fun o ho=>?_⟩⟩ hdec
   rw [take_succ hlt] at ho
   rcases List.mem_append.1 ho with ho | ho
   ·cases hf : fd with
    | true=>exact a2 hf o ho
    | false=>
     have:=hn hf o ho
     exact ⟨(show cL os[i] l ≤ cL o l by omega),fun (h:cL o l=cL os[i] l)=>by omega⟩
   ·rw [List.mem_singleton.1 ho]; exact ⟨Int.le_refl _,fun _=>Lx.refl _⟩
  refine Yes.bind (Gp _ (qidx hlt) (Gp _ (s22 os[i] big (big_pos _ (by omega)) (by omega) hl) ?_))
  by_cases hdeep:(rf os[i] l).2.2=os[i].length
  ·have hlt2 := hR.all.2 hdeep
   have hmv:=hR.mv hlt2
   have hde:((rf os[i] l).2.2 == (os[i].length:Int))=true:=beq_iff_eq.2 hdeep
   cases hf:fd with
   | false=>
    refine Gp true (by rw [qidx hlt,Option.bind_some,hde]; rfl) (Qw rfl (Gp _ (qidx hlt) (Yes.some ?_)))
    show Yes (k (os[i],(rf os[i] l).2.1,true,w64 ((i:Int) + 1))) _
    rw [hmv]
    exact take hlt2 fun h=>by rw [hf] at h; cases h
   | true=>
    obtain ⟨b1,b2,b3,b4⟩:=hy hf
    have hlb:os[i].length=best.length:=by rw [hlen,b1.len]
    by_cases h1:cL os[i] l < mv
    ·refine Gp true (by rw [qidx hlt, Option.bind_some, hde, hmv, decide_eq_true h1]; rfl) (Qw rfl (Gp _ (qidx hlt) (Yes.some ?_)))
     show Yes (k (os[i],(rf os[i] l).2.1,true,w64 ((i:Int) + 1))) _
     rw [hmv]
     exact take hlt2 fun _ o ho=>by have:=(b4 o ho).1; exact ⟨by omega,fun h=>by omega⟩
    ·by_cases h2 : cL os[i] l = mv
     ·by_cases h5 : Lx best os[i]
      ·refine Gp false (by rw [qidx hlt, Option.bind_some, hde, hmv, decide_eq_false h1, beq_iff_eq.2 h2, Option.bind_some, s69 hlb (by omega), Option.bind_some, decide_eq_false (fun h => h h5)]; rfl) (Qi rfl (Yes.some ?_))
       have:=stay (fun h=>by rw [hf] at h; cases h) (fun _=>⟨by omega,fun _=>h5⟩)
       rw [hf] at this; exact this
      ·refine Gp true (by rw [qidx hlt, Option.bind_some, hde, hmv, decide_eq_false h1, beq_iff_eq.2 h2, Option.bind_some, s69 hlb (by omega), Option.bind_some, decide_eq_true h5]; rfl) (Qw rfl (Gp _ (qidx hlt) (Yes.some ?_)))
       show Yes (k (os[i],(rf os[i] l).2.1,true,w64 ((i:Int) + 1))) _
       rw [hmv]
       refine take hlt2 fun _ o ho=>?_
       have h6:=b4 o ho
       refine ⟨by omega,fun h=>?_⟩
       rcases Lx.total hlb with h7 | h7
       ·exact h7.trans (h6.2 (by omega)) hlb
       ·exact absurd h7 h5
     ·refine Gp false (by rw [qidx hlt, Option.bind_some, hde, hmv, decide_eq_false h1, beq_eq_false_iff_ne.2 h2]; rfl) (Qi rfl (Yes.some ?_))
      have:=stay (fun h=>by rw [hf] at h; cases h) (fun _=>⟨by omega,fun h=>absurd h h2⟩)
      rw [hf] at this; exact this
  ·have hge:Tx ≤ cL os[i] l:=by
    have:¬ cL os[i] l < Tx:=fun h=>hdeep (hR.all.1 h)
    omega
   refine Gp false (by rw [qidx hlt,Option.bind_some,beq_eq_false_iff_ne.2 hdeep]; rfl) (Qi rfl (Yes.some ?_))
   exact stay (fun _=>hge) (fun hf=>by have:=(hy hf).2.2.1; exact ⟨by omega,fun h=>by omega⟩)
 ·have hi' : i = os.length := by omega
  subst hi'
  rw [List.take_length] at hn hy
  refine Yes.jn (Qi (decide_eq_false (by omega)) (Yes.some ⟨fun hf=>?_,fun hf o ho=>hn hf o ((o2 o).2 ho)⟩))
  obtain ⟨b1,b2,b3,b4⟩:=hy hf
  exact ⟨b1,b2,b3,fun o' ho'=>(b4 o' ((o2 o').2 ho')).1,fun o' ho' hm=>(b4 o' ((o2 o').2 ho')).2 hm⟩
end
theorem s24 (gs:List (List Int)) (hg:gs.length ≤ 12) (h:∀ g ∈ gs,g.length ≤ 1000):f24 gs=some gs:=by
 refine Yes.eq ?_
 unfold f24
 refine Yes.bind (Yes.mono (Q':=fun r=>r=gs) ?_ fun r hr=>by subst hr; exact Yes.some rfl)
 refine Yes.upto gs.length (by omega) (fun i r=>r=gs.take i) (by simp) (fun i r k hi hI hk=>?_) (fun r k hI=>?_)
 ·subst hI
  refine Yes.jn (Qw (decide_eq_true (by omega)) (Yes.bind (Yes.bind (Yes.idx rfl hi (Gp _ (s16 gs[i] (h _ (List.getElem_mem hi))) (Yes.bind (Yes.apnd (by simp; omega) (by simp; omega) (Yes.some (hk _ ?_)))))))))
  rw [take_succ hi]
 ·subst hI
  exact Yes.jn (Qi (decide_eq_false (by simp)) (Yes.some (by rw [List.take_length])))
theorem s26 (gs:List (List Int)) (hg:gs.length ≤ 12) (h:∀ g ∈ gs,g.length ≤ 1000):f26 gs gs=some true:=by
 refine Yes.eq ?_
 unfold f26
 refine Yes.jn (Qi (by simp) (Yes.jn ?_))
 refine Yes.upto0 gs.length (by omega) (fun _=>True) trivial (fun i k hi _ hk=>?_) (fun k _=>?_)
 ·have := h _ (List.getElem_mem hi)
  exact Yes.jn (Qw (decide_eq_true (by omega)) (Yes.jn (Gp _ (qidx hi) (Gp _ (qidx hi) (Gp true (by rw [s19 _ _ (by omega)]; simp) (Qi rfl (hk trivial)))))))
 ·exact Yes.jn (Qi (decide_eq_false (by simp)) (Yes.some rfl))
section
variable {l:BoxLoom} {gs:List (List Int)}
def long (gs:List (List Int)):Prop:=gs.length > 8 ∨ ∃ g ∈ gs,g.length > 3
theorem s25e (h:Sml l) (he:chk l ≠ 0):f25 l gs=some ([],0,chk l):=by
 refine Yes.eq ?_
 unfold f25
 exact Gp _ (s51 l h) (Yes.jn (Qw (by simpa using he) (Yes.some rfl)))
theorem s64l (hg:gs.length ≤ 12):f64 gs (fun a0=>f62 a0)=some (gs.any fun g=>decide ((g.length:Int) > 3)):=s64 gs _ _ (by omega) (fun g _=>by unfold f62; rfl)
theorem long_any (hg:gs.length ≤ 8):long gs ↔ (gs.any fun g=>decide ((g.length:Int) > 3))=true:=by
 rw [List.any_eq_true]
 constructor
 ·rintro (h | ⟨g, hg', h⟩)
  ·omega
  ·exact ⟨g,hg',decide_eq_true (by omega)⟩
 ·rintro ⟨g, hg', h⟩
  have:=of_decide_eq_true h
  exact .inr ⟨g,hg',by omega⟩
theorem s25l (hl:LOk l) (hg:gs.length ≤ 12) (h:long gs):f25 l gs=some ([],0,5):=by
 refine Yes.eq ?_
 unfold f25
 refine Gp _ (s51 l hl.sml) (Yes.jn (Qi (by rw [chk0.2 hl]; rfl) (Gp true ?_ (Qw rfl (Yes.some rfl)))))
 by_cases h8:gs.length > 8
 ·rw [decide_eq_true (by omega)]; rfl
 ·rw [decide_eq_false (by omega),cond_false,s64l hg,(long_any (by omega)).1 h]; rfl
theorem s25a (hl:LOk l) (hg:gs.length ≤ 8) (h:¬ long gs) (hc:¬ ∀ g ∈ gs,g.all (btw 0 9)=true):f25 l gs=some ([],0,2):=by
 have h3:∀ g ∈ gs,g.length ≤ 3:=fun g hgm=>by
  have:¬ g.length > 3:=fun h'=>h (.inr ⟨g,hgm,h'⟩)
  omega
 have hla:(gs.any fun g=>decide ((g.length:Int) > 3))=false:=by
  cases hh:gs.any fun g=>decide ((g.length:Int) > 3) with
  | false=>rfl
  | true=>exact absurd ((long_any hg).2 hh) h
 refine Yes.eq ?_
 unfold f25
 refine Gp _ (s51 l hl.sml) (Yes.jn (Qi (by rw [chk0.2 hl]; rfl) (Gp false (by rw [decide_eq_false (by omega),cond_false,s64l (by omega),hla]; rfl) (Qi rfl (Gp true ?_ (Qw rfl (Yes.some rfl)))))))
 rw [s64 gs _ (fun g=>!g.all (btw 0 9)) (by omega) (fun g hgm=>by unfold f63; rw [s52 g (by have:=h3 g hgm; omega)]; rfl)]
 congr 1
 rw [List.any_eq_true]
 simp only [Classical.not_forall] at hc
 obtain ⟨g,hgm,hc⟩:=hc
 exact ⟨g,hgm,by simpa using hc⟩
end
end Go.Proofs.Ytmpjooneiaiffaa
