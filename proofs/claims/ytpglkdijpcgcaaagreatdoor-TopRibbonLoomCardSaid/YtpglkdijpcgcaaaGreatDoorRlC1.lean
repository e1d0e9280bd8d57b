/- TopRibbonLoom: cloths sorted and joined, however many. -/
import Derived.Test.YtpglkdijpcgcaaaGreatDoorRlD1
set_option maxRecDepth 8000
namespace Go.Proofs.YtpglkdijpcgcaaaGreatDoor
open Go.RowKit Go.Sort
open Classical
def ltC (a b:Z4):Prop:=a.Day<b.Day∨a.Day=b.Day∧a.Loom<b.Loom
theorem Oh (a b:Z4):∃ z,f33 a b=some z∧(z<0↔ltC a b):=by
 unfold ltC
 rcases Int.lt_trichotomy a.Day b.Day with h | h | h
 ·exact ⟨_,On h,by omega⟩
 ·have hz:∃ z,f54 a.Loom b.Loom=some z∧(z=-1∨z=0∨z=1)∧(z<0↔a.Loom<b.Loom):=by
   rcases Int.lt_trichotomy a.Loom b.Loom with g | g | g
   ·exact ⟨_,Rd g,by omega,by omega⟩
   ·exact ⟨0,by rw [g];exact Bm _,by omega,by omega⟩
   ·exact ⟨_,S6 g,by omega,by omega⟩
  obtain ⟨z,z1,z2,z3⟩:=hz
  refine ⟨z,?_,by omega⟩
  refine Yes.eq ?_
  unfold f33
  refine Tc 0 (by rw [h];exact Bm _) (Tc _ z1 (Tc _ (Ex z2) (Yes.some rfl)))
 ·exact ⟨_,Oe h,by omega⟩
theorem Oy (a b:Z4):ltOf (fun a b=>(f33 a b).getD 0) a b=decide (ltC a b):=by
 obtain ⟨z,h1,h2⟩:=Oh a b
 show decide ((f33 a b).getD 0<0)=_
 rw [h1,decide_eq_decide]
 exact h2
theorem Oa:SWO (ltOf fun a b=>(f33 a b).getD 0) where
 irrefl x:=by rw [Oy,decide_eq_false_iff_not];unfold ltC;omega
 trans x y z h1 h2:=by
  rw [Oy,decide_eq_true_iff] at *
  unfold ltC at *;omega
 ntrans x y z h1 h2:=by
  rw [Oy,decide_eq_false_iff_not] at *
  unfold ltC at *;omega
theorem s70r {zs:List Z4} (hl:zs.length≤1000):∃ ys,f70 zs (fun a0 a1=>f33 a0 a1)=some ys∧ys.Perm zs∧ys.Pairwise fun a b=>¬ ltC b a:=by
 unfold f70 C6
 rw [if_pos ⟨fun a b=>by obtain ⟨z,h,_⟩:=Oh a b;show (f33 a b).isSome=true;rw [h];rfl,Oa,by omega⟩]
 have hp:=pdq_sorts (ltOf fun a b=>(f33 a b).getD 0) Oa zs.toArray 0 zs.length (Lib.bitLen zs.length) true true (Nat.zero_le _) (by simp) (.inl rfl)
 refine ⟨_,rfl,?_⟩
 generalize pdq (ltOf fun a b=>(f33 a b).getD 0) zs.toArray 0 zs.length (Lib.bitLen zs.length) true true=d at hp
 obtain ⟨⟨h1,_,h3⟩,h4⟩:=hp
 have hs:d.size=zs.length:=by simpa using h1
 constructor
 ·have e1:(d.extract 0 zs.length)=d:=by rw [← hs];simp
  have e2:(zs.toArray.extract 0 zs.length)=zs.toArray:=by simp
  rw [e1,e2] at h3
  simpa using h3
 ·refine List.pairwise_iff_getElem.2 fun i j hi hj hij=>?_
  have hi':i<d.size:=by simpa using hi
  have hj':j<d.size:=by simpa using hj
  have:=h4 i j (Nat.zero_le _) hij (by omega)
  rw [Oy,decide_eq_false_iff_not,getElem!_pos d j hj',getElem!_pos d i hi'] at this
  simpa using this
theorem s19k {ls:List (List Z4)} {y:List Z4} (hn:ls.length≤10) (hls:∀ l∈ls,Bz l) (hy:Bz y) (h1:∀ l∈ls,∀ c∈l,c∈y) (h2:∀ c∈y,∃ l∈ls,c∈l) :
  f36 (ls.map fun l=>(l.map Yr).flatten)=some (y,0,0):=by
 have hy12:=hy.1
 refine Yes.eq ?_
 unfold f36
 refine Yes.jn (Qj (decide_eq_false (by rw [List.length_map];omega)) (Yes.jn ?_))
 refine Yes.upto ls.length (by omega) (fun i zs=>zs=ls.take i) rfl (fun i zs k hi hI hk=>?_) (fun zs k hI=>?_)
 ·subst hI
  refine K4 (decide_eq_true (by rw [List.length_map];omega)) (Yes.jn (Tc _ (Xv (by rw [List.length_map];exact hi)) ?_))
  rw [List.getElem_map]
  refine Tc _ (s47kB (hls _ (List.getElem_mem hi))) (Yes.jn (Qj rfl (Yes.bind (Yes.apnd (by rw [List.length_take];simp;omega) (by rw [List.length_take];simp;omega) (hk _ ?_)))))
  rw [List.take_succ_eq_append_getElem hi]
 subst hI
 rw [List.take_length]
 refine Qj (decide_eq_false (by rw [List.length_map];omega)) (Yes.jn ?_)
 refine Yes.upto2 ls.length (by omega) (fun i zs mp=>JnB y zs mp∧∀ (j:Nat) (hj:j<ls.length),j<i→∀ c∈ls[j],c∈zs) ⟨⟨List.nodup_nil,by simp,fun sp c=>⟨fun h=>by simp [Qo] at h,fun h=>by simp at h⟩⟩,fun j _ h=>absurd h (by omega)⟩ (fun i zs mp k hi hI hk=>?_) (fun zs mp k hI=>?_)
 ·obtain ⟨hJ,hP⟩:=hI
  refine K4 (decide_eq_true (by omega)) (Yes.jn (Tc _ (Xv hi) ?_))
  have hw:=hls _ (List.getElem_mem hi)
  have hwy:=h1 _ (List.getElem_mem hi)
  have hw12:=hw.1
  refine Yes.upto2 (ls[i]).length (by omega) (fun j zs' mp'=>JnB y zs' mp'∧(∀ c∈zs,c∈zs')∧∀ c∈(ls[i]).take j,c∈zs') ⟨hJ,fun _ h=>h,by simp⟩ (fun j zs' mp' k' hj hI' hk'=>?_) (fun zs' mp' k' hI'=>?_)
  ·obtain ⟨⟨n1,n2,n3⟩,n4,n5⟩:=hI'
   have hcy:=hwy (ls[i])[j] (List.getElem_mem hj)
   have hz12:=Dh n1 n2
   refine K4 (decide_eq_true (by omega)) (Yes.jn (Tc _ (Xv hj) (Yes.jn ?_)))
   generalize hc:(ls[i])[j]=c at *
   cases hg:Qo mp' (⟨c.Day,c.Loom⟩:Tf) with
   | none=>
    refine Yes.bind (Qj rfl (Yes.some (Qj rfl (K4 rfl (Yes.bind (Yes.apnd (by simp;omega) (by simp;omega) (hk' _ _ ⟨⟨?_,?_,fun sp d=>?_⟩,fun d hd=>List.mem_append.2 (.inl (n4 d hd)),fun d hd=>?_⟩)))))))
    ·refine List.nodup_append.2 ⟨n1,by simp,fun a ha b hb=>?_⟩
     rw [List.mem_singleton.1 hb]
     rintro rfl
     rw [(n3 _ a).2 ⟨ha,rfl⟩] at hg
     cases hg
    ·intro d hd
     rcases List.mem_append.1 hd with hd | hd
     ·exact n2 d hd
     ·rw [List.mem_singleton.1 hd];exact hcy
    ·by_cases hs:(⟨c.Day,c.Loom⟩:Tf)=sp
     ·subst hs
      rw [L1]
      constructor
      ·intro h;rw [← Option.some.inj h];exact ⟨by simp,rfl⟩
      ·rintro ⟨hd,he⟩
       rcases List.mem_append.1 hd with hd | hd
       ·rw [(n3 _ d).2 ⟨hd,he⟩] at hg;cases hg
       ·rw [List.mem_singleton.1 hd]
     ·rw [Ly hs,n3]
      constructor
      ·rintro ⟨hd,he⟩;exact ⟨List.mem_append.2 (.inl hd),he⟩
      ·rintro ⟨hd,he⟩
       rcases List.mem_append.1 hd with hd | hd
       ·exact ⟨hd,he⟩
       ·rw [List.mem_singleton.1 hd] at he;exact absurd he.symm hs
    ·rw [List.take_succ_eq_append_getElem hj,hc] at hd
     rcases List.mem_append.1 hd with hd | hd
     ·exact List.mem_append.2 (.inl (n5 d hd))
     ·exact List.mem_append.2 (.inr hd)
   | some x=>
    obtain ⟨hx,he⟩:=(n3 _ x).1 hg
    have hxc:x=c:=hy.inj (n2 x hx) hcy (by injection he with e1 e2;unfold Hj;omega)
    subst hxc
    refine Yes.bind (K4 rfl (Yes.some (Qj (by simp) (Qj rfl (hk' _ _ ⟨⟨n1,n2,n3⟩,n4,fun d hd=>?_⟩)))))
    rw [List.take_succ_eq_append_getElem hj,hc] at hd
    rcases List.mem_append.1 hd with hd | hd
    ·exact n5 d hd
    ·rw [List.mem_singleton.1 hd];exact hx
  ·obtain ⟨hJ',n4,n5⟩:=hI'
   rw [List.take_length] at n5
   refine Qj (decide_eq_false (by omega)) (hk _ _ ⟨hJ',fun j hj hji c hc=>?_⟩)
   rcases (by omega:j<i∨j=i) with e | e
   ·exact n4 c (hP j hj e c hc)
   ·subst e;exact n5 c hc
 ·obtain ⟨⟨n1,n2,n3⟩,hP⟩:=hI
  have hz12:=Dh n1 n2
  have hmem:∀ c,c∈zs↔c∈y:=fun c=>⟨n2 c,fun hc=>by
   obtain ⟨l,hl,hcl⟩:=h2 c hc
   obtain ⟨j,hj,rfl⟩:=List.getElem_of_mem hl
   exact hP j hj hj c hcl⟩
  refine Qj (decide_eq_false (by omega)) (Yes.jn (Qj (decide_eq_false (by omega)) ?_))
  obtain ⟨ys,g1,g2,g3⟩:=s70r (zs:=zs) (by omega)
  refine Tc _ g1 (Yes.some ?_)
  have hne:ys.Pairwise fun a b=>Hj a≠Hj b:=List.Pairwise.imp_of_mem (fun ha hb hab he=>hab (hy.inj (n2 _ (g2.mem_iff.1 ha)) (n2 _ (g2.mem_iff.1 hb)) he)) (g2.nodup_iff.2 n1)
  have hs:ys.Pairwise fun a b=>Hj a<Hj b:=List.Pairwise.imp_of_mem (fun {a b} ha hb hab=>by
   have h1:=(hy.2.2 a (n2 _ (g2.mem_iff.1 ha))).2.1
   have h2:=(hy.2.2 b (n2 _ (g2.mem_iff.1 hb))).2.1
   obtain ⟨h3,h4⟩:=hab
   unfold ltC at h3
   unfold Hj at h4 ⊢
   omega) (List.pairwise_and_iff.2 ⟨g3,hne⟩)
  have:ys=y:=Bl hs hy.2.1 fun c=>by rw [← hmem];exact g2.mem_iff
  rw [this]
end Go.Proofs.YtpglkdijpcgcaaaGreatDoor
