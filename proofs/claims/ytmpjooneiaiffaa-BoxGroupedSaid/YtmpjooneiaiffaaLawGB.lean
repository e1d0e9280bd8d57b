/- Plain laws: the smallest colour with which the best plans can go on (box.smallest). -/
import Derived.Test.YtmpjooneiaiffaaLawGA
set_option maxRecDepth 8000
namespace Go.Proofs.Ytmpjooneiaiffaa
open Go.RowKit
open Classical

/-! ### Maps by what they hold -/
section
variable {κ ν:Type} [DecidableEq κ]
theorem Ns {k : κ} {v : ν} : ∀ {m : List (κ × ν)}, k ∉ m.map (·.1) → Hg m k v = m ++ [(k, v)]
 | [],_=>rfl
 | p :: m,h=>by
  simp only [List.map_cons,List.mem_cons,not_or] at h
  rw [Hg,if_neg fun e=>h.1 e.symm,Ns h.2]; rfl
theorem Am {k : κ} {v : ν} : ∀ {m : List (κ × ν)}, (m.map (·.1)).Nodup → (k, v) ∈ m → Hg m k v = m
 | [],_,h=>by cases h
 | p :: m,hn,h=>by
  rw [List.map_cons,List.nodup_cons] at hn
  rcases List.mem_cons.1 h with h | h
  ·subst h; rw [Hg,if_pos rfl]
  ·have hne : p.1 ≠ k := fun e => hn.1 (by rw [e]; exact List.mem_map.2 ⟨(k, v), h, rfl⟩)
   rw [Hg,if_neg hne,Am hn.2 h]
end
def Is (nx:List (Gd × Int)) (E:Gd→Int→Prop):Prop:=(nx.map (·.1)).Nodup∧∀ to v,(to,v) ∈ nx ↔ E to v
theorem Is.nil:Is [] fun _ _=>False:=⟨by simp,fun _ _=>by simp⟩
theorem Is.congr {nx:List (Gd × Int)} {E E':Gd→Int→Prop} (h:Is nx E) (k:∀ a b,E a b ↔ E' a b):Is nx E':=⟨h.1,fun a b=>(h.2 a b).trans (k a b)⟩
theorem Is.set {nx:List (Gd × Int)} {E:Gd→Int→Prop} {to:Gd} {v:Int} (h:Is nx E) (hf:∀ v',E to v'→v'=v):Is (Hg nx to v) fun a b=>E a b ∨ (a=to∧b=v):=by
 by_cases hk:to ∈ nx.map (·.1)
 ·obtain ⟨p, hp, he⟩ := List.mem_map.1 hk
  have h1:=(h.2 p.1 p.2).1 hp
  have h2:p.2=v:=hf p.2 (he ▸ h1)
  have hm:(to,v) ∈ nx:=by rw [← he,← h2]; exact hp
  rw [Am h.1 hm]
  refine ⟨h.1,fun a b=>?_⟩
  rw [h.2]
  refine ⟨.inl,fun hh=>?_⟩
  rcases hh with hh | ⟨rfl,rfl⟩
  ·exact hh
  ·exact (h.2 _ _).1 hm
 ·rw [Ns hk]
  refine ⟨?_,fun a b=>?_⟩
  ·rw [List.map_append, List.nodup_append]
   refine ⟨h.1,by simp,fun a ha b hb=>?_⟩
   simp only [List.map_cons,List.map_nil,List.mem_singleton] at hb
   subst hb
   exact fun e=>hk (e ▸ ha)
  ·rw [List.mem_append,h.2,List.mem_singleton,Prod.mk.injEq]
/-! ### The smallest colour so far, and where it leads -/
def J (C:Int→Gd→Int→Prop) (col:Int) (nxt:Option (List (Gd × Int))):Prop:=
 (nxt=none∧col=Ti∧∀ c to v,¬ C c to v) ∨ ∃ nx,nxt=some nx∧col < Ti∧(∃ to v,C col to v)∧(∀ c to v,C c to v→col ≤ c)∧Is nx (C col)
section
variable {C C':Int→Gd→Int→Prop} {col:Int} {nxt:Option (List (Gd × Int))} {c v:Int} {to:Gd}
theorem J.congr (h:J C col nxt) (k:∀ a b d,C a b d ↔ C' a b d):J C' col nxt:=by
 have e:C=C':=by funext a b d; exact propext (k a b d)
 rw [← e]; exact h
theorem J.skip (h:J C col nxt) (hc:col < c) (h9:c < Ti):J (fun a b d=>C a b d ∨ (a=c∧b=to∧d=v)) col nxt:=by
 rcases h with ⟨_,h,_⟩ | ⟨nx,h1,h2,⟨t0,v0,h3⟩,h4,h5⟩
 ·omega
 ·refine .inr ⟨nx, h1, h2, ⟨t0, v0, .inl h3⟩, fun a b d hh => ?_, h5.congr fun a b => ⟨.inl, fun hh => ?_⟩⟩
  ·rcases hh with hh | ⟨rfl, _⟩
   ·exact h4 _ _ _ hh
   ·omega
  ·rcases hh with hh | ⟨hh, _⟩
   ·exact hh
   ·omega
theorem J.less (h:J C col nxt) (hc:c < col):J (fun a b d=>C a b d ∨ (a=c∧b=to∧d=v)) c (some (Hg [] to v)):=by
 have hall:∀ a b d,C a b d→col ≤ a:=by
  rcases h with ⟨_,_,h⟩ | ⟨nx,_,_,_,h4,_⟩
  ·exact fun a b d hh=>absurd hh (h a b d)
  ·exact h4
 have hn:col ≤ Ti:=by
  rcases h with ⟨_,h,_⟩ | ⟨_,_,h,_⟩ <;> omega
 refine .inr ⟨_,rfl,by omega,⟨to,v,.inr ⟨rfl,rfl,rfl⟩⟩,fun a b d hh=>?_,(Is.nil.set fun _ h=>h.elim).congr fun a b=>⟨fun hh=>?_,fun hh=>?_⟩⟩
 ·rcases hh with hh | ⟨rfl, _⟩
  ·have:=hall _ _ _ hh; omega
  ·exact Int.le_refl _
 ·rcases hh with hh | hh
  ·exact hh.elim
  ·exact .inr ⟨rfl,hh⟩
 ·rcases hh with hh | ⟨_, hh⟩
  ·have:=hall _ _ _ hh; omega
  ·exact .inr hh
theorem J.put (h:J C c nxt) (h9:c < Ti) (hf:∀ v',C c to v'→v'=v):∃ nx,nxt=some nx∧J (fun a b d=>C a b d ∨ (a=c∧b=to∧d=v)) c (some (Hg nx to v)):=by
 rcases h with ⟨_,h,_⟩ | ⟨nx,h1,h2,⟨t0,v0,h3⟩,h4,h5⟩
 ·omega
 ·refine ⟨nx, h1, .inr ⟨_, rfl, h2, ⟨t0, v0, .inl h3⟩, fun a b d hh => ?_, (h5.set hf).congr fun a b => ?_⟩⟩
  ·rcases hh with hh | ⟨rfl, _⟩
   ·exact h4 _ _ _ hh
   ·exact Int.le_refl _
  ·simp
end
/-! ### What can be done at a point of the best plans -/
section
variable {l:BoxLoom} {gs:List (List Int)} {V:Gd→Nat→Prop} {N:Int→Int→Int→Option (Int × Int)}
noncomputable abbrev cs (l:BoxLoom) (gs:List (List Int)) (k:Nat) (pt:Gd):Int:=cst (nbx l 0) (nbx l 1) (fun p s=>f88 p gs s) k pt
def Elig (l:BoxLoom) (gs:List (List Int)) (N:Int→Int→Int→Option (Int × Int)) (k:Nat) (M:Int) (e:Gd × Int) (s:Gf × Tc) (c:Int) (to:Gd) (v:Int):Prop:=
 c=s.2.colour∧N e.1.group e.1.done s.2.colour=some (to.group,to.done)∧to.race=s.2.next∧v=e.2 + s.2.moves∧v + cs l gs k to=M
def ElE (l:BoxLoom) (gs:List (List Int)) (N:Int→Int→Int→Option (Int × Int)) (k:Nat) (M:Int) (e:Gd × Int) (ss:List (Gf × Tc)) (c:Int) (to:Gd) (v:Int):Prop:=∃ s ∈ ss,Elig l gs N k M e s c to v
def ElN (l:BoxLoom) (gs:List (List Int)) (N:Int→Int→Int→Option (Int × Int)) (k:Nat) (M:Int) (P:List (Gd × Int)) (c:Int) (to:Gd) (v:Int):Prop:=∃ e ∈ P,ElE l gs N k M e (pkR (nbx l 0) (nbx l 1) e.1.race) c to v
theorem ElE.sum {k:Nat} {M:Int} {e:Gd × Int} {ss:List (Gf × Tc)} {c v:Int} {to:Gd} (h:ElE l gs N k M e ss c to v):v + cs l gs k to=M:=by obtain ⟨s,_,h⟩:=h; exact h.2.2.2.2
theorem ElN.sum {k:Nat} {M:Int} {P:List (Gd × Int)} {c v:Int} {to:Gd} (h:ElN l gs N k M P c to v):v + cs l gs k to=M:=by obtain ⟨e,_,h⟩:=h; exact h.sum
theorem Db {α:Type} {xs:List α} {i:Nat} (h:i < xs.length) {x:α}:x ∈ xs.take (i + 1) ↔ x ∈ xs.take i ∨ x=xs[i]:=by
 rw [List.take_succ_eq_append_getElem h,List.mem_append,List.mem_singleton]
theorem s67 (hl : LOk l) (hN : Nx gs V N) {k : Nat} (hk : k < 1000) {now m : List (Gd × Int)} {M : Int} (hlen : now.length < 18446744073709551616)
  (hnow:∀ e ∈ now,Rok l e.1.race∧V e.1 (k + 1)∧0 ≤ e.2∧e.2 ≤ 1073741824) (hm:KOk (nbx l 0) (nbx l 1) gs V m) :
  Yes (f67 ⟨(nbx l 0:Int),(nbx l 1:Int),⟨⟩⟩ m gs now M) (Ok fun r=>J (ElN l gs N k M now) r.1 r.2.1∧KOk (nbx l 0) (nbx l 1) gs V r.2.2):=by
 unfold f67
 refine Yes.jn ?_
 refine Yes.lp (fun s=>∃ P,(P ++ s.2.2.1).Perm now∧J (ElN l gs N k M P) s.1 s.2.1∧KOk (nbx l 0) (nbx l 1) gs V s.2.2.2) (fun s=>s.2.2.1.length) ⟨[],List.Perm.refl _,.inl ⟨rfl,rfl,fun c to v h=>by obtain ⟨e,he,_⟩:=h; cases he⟩,hm⟩ (by simp only; omega) ?_
 rintro ⟨col,nxt,rem,mm⟩ kk ⟨P,hp,hJ,hK⟩ hkk
 simp only at hp hJ hK
 refine Yes.cond (fun he=>?_) (fun he=>?_)
 ·have hre : rem = [] := by simpa using he
  subst hre
  rw [List.append_nil] at hp
  refine Yes.some (Ok.one ⟨hJ.congr fun c to v=>⟨fun ⟨e,h1,h2⟩=>⟨e,hp.mem_iff.1 h1,h2⟩,fun ⟨e,h1,h2⟩=>⟨e,hp.mem_iff.2 h1,h2⟩⟩,hK⟩)
 ·have hre : rem ≠ [] := by rintro rfl; simp at he
  refine Yes.pickL hre fun q rm hq=>?_
  have hpq:(P ++ [q] ++ rm).Perm now:=by
   rw [List.append_assoc]; exact ((List.Perm.append_left P hq.symm)).trans hp
  have hmem:q ∈ now:=hpq.mem_iff.1 (by simp)
  obtain ⟨hr,hv,hb0,hb1⟩:=hnow q hmem
  have hr':=hr
  obtain ⟨l',h1,h2,h3⟩:=hr
  have key:∀ {σ:Type} {cons:Di σ (Gf × Tc)} {s0:σ} {Q:σ→Prop},Yes (Bh cons (stL l') s0) Q→Yes (f98 ⟨⟨(nbx l 0:Int),(nbx l 1:Int),⟨⟩⟩⟩ q.1.race σ cons s0) Q:=fun h=>by
   have:=s98 h1 h
   rw [Kt h2,Kt h2,← h3] at this; exact this
  have hst:stL l'=pkR (nbx l 0) (nbx l 1) q.1.race:=by rw [h3,← Kt h2,← Kt h2,Ro h1]
  have hlr:rm.length < rem.length:=by have:=hq.length_eq; simp at this; omega
  unfold f80
  rw [Option.bind_some]
  refine Yes.bind ?_
  show Yes (f98 _ _ _ _ _) _
  refine key (Rw (stL l') (fun i s=>J (fun c to v=>ElN l gs N k M P c to v ∨ ElE l gs N k M q ((stL l').take i) c to v) s.1 s.2.1∧KOk (nbx l 0) (nbx l 1) gs V s.2.2) _ ⟨hJ.congr fun c to v=>⟨.inl,fun h=>?_⟩,hK⟩ (fun i h s hI=>?_) (fun s hI=>?_))
  ·rcases h with h | ⟨s, hs, _⟩
   ·exact h
   ·simp at hs
  ·obtain ⟨b, nx, m2⟩ := s
   obtain ⟨i1,i2⟩:=hI
   simp only at i1 i2
   have hin:(stL l')[i] ∈ pkR (nbx l 0) (nbx l 1) q.1.race:=hst ▸ List.getElem_mem h
   obtain ⟨r1,r2,r3,r4,r5⟩:=hr'.pk hin
   generalize hs:(stL l')[i]=s at hin r1 r2 r3 r4 r5
   -- what the next pick brings
   have add:∀ {to:Gd} {v:Int},Elig l gs N k M q s s.2.colour to v→∀ a b d,((ElN l gs N k M P a b d ∨ ElE l gs N k M q ((stL l').take i) a b d) ∨ (a=s.2.colour∧b=to∧d=v)) ↔ (ElN l gs N k M P a b d ∨ ElE l gs N k M q ((stL l').take (i + 1)) a b d):=fun {to v} hel a b d=>by
    constructor
    ·rintro ((hh | ⟨t, ht, hh⟩) | ⟨rfl, rfl, rfl⟩)
     ·exact .inl hh
     ·exact .inr ⟨t,(Db h).2 (.inl ht),hh⟩
     ·exact .inr ⟨s,(Db h).2 (.inr hs.symm),hel⟩
    ·rintro (hh | ⟨t, ht, hh⟩)
     ·exact .inl (.inl hh)
     ·rcases (Db h).1 ht with ht | ht
      ·exact .inl (.inr ⟨t,ht,hh⟩)
      ·rw [hs] at ht; subst ht
       obtain ⟨c1,c2,c3,c4,c5⟩:=hh
       obtain ⟨_,d2,d3,d4,d5⟩:=hel
       rw [d2] at c2
       obtain ⟨tg,td,tr⟩:=to
       obtain ⟨bg,bd,br⟩:=b
       simp only at c2 c3 d3
       cases c2
       refine .inr ⟨c1,by rw [c3,d3],by omega⟩
   have same:(∀ to v,¬ Elig l gs N k M q s s.2.colour to v)→∀ a b d,(ElN l gs N k M P a b d ∨ ElE l gs N k M q ((stL l').take i) a b d) ↔ (ElN l gs N k M P a b d ∨ ElE l gs N k M q ((stL l').take (i + 1)) a b d):=fun hno a b d=>by
    refine or_congr_right ⟨fun ⟨t,ht,hh⟩=>⟨t,(Db h).2 (.inl ht),hh⟩,fun ⟨t,ht,hh⟩=>?_⟩
    rcases (Db h).1 ht with ht | ht
    ·exact ⟨t,ht,hh⟩
    ·rw [hs] at ht; subst ht
     have:=hh.1; subst this
     exact absurd hh (hno _ _)
   have hfun:∀ {to:Gd} {v:Int},Elig l gs N k M q s s.2.colour to v→∀ v',(ElN l gs N k M P s.2.colour to v' ∨ ElE l gs N k M q ((stL l').take i) s.2.colour to v')→v'=v:=fun hel v' hh=>by
    have e1:=hel.2.2.2.2
    rcases hh with hh | hh
    ·have:=hh.sum; omega
    ·have:=hh.sum; omega
   show Yes ((f88 q.1 gs s.2).bind _) _
   cases hn:N q.1.group q.1.done s.2.colour with
   | none=>
    obtain ⟨to,e⟩:=hN.no hv hn
    rw [e,Option.bind_some]
    refine Yes.jn (Gj (true,m2) rfl (Qr rfl (Yes.some ⟨rfl,i1.congr (same fun to v hel=>?_),i2⟩)))
    have:=hel.2.1; rw [hn] at this; cases this
   | some x=>
    obtain ⟨g,d⟩:=x
    have e:=hN.yes hv hn
    have hv':=hN.to (s:=s.2) hv hn
    rw [e,Option.bind_some]
    have hel:∀ to v,Elig l gs N k M q s s.2.colour to v ↔ to=⟨g,d,s.2.next⟩∧v=q.2 + s.2.moves∧q.2 + s.2.moves + cs l gs k ⟨g,d,s.2.next⟩=M:=fun to v=>by
     constructor
     ·rintro ⟨_, c2, c3, c4, c5⟩
      rw [hn] at c2
      obtain ⟨tg,td,tr⟩:=to
      simp only at c2 c3
      cases c2; subst c3
      exact ⟨rfl,c4,by rw [← c4]; exact c5⟩
     ·rintro ⟨rfl, rfl, h5⟩
      exact ⟨rfl,hn,rfl,rfl,h5⟩
    by_cases hc:s.2.colour > b
    ·refine Yes.jn (Gj (true, m2) (by rw [decide_eq_true hc]; rfl) (Qr rfl (Yes.some ⟨rfl, ?_, i2⟩)))
     by_cases h5:q.2 + s.2.moves + cs l gs k ⟨g,d,s.2.next⟩=M
     ·exact (i1.skip hc (by unfold Ti; omega)).congr (add ((hel _ _).2 ⟨rfl,rfl,h5⟩))
     ·exact i1.congr (same fun to v hh=>h5 ((hel to v).1 hh).2.2)
    ·obtain ⟨ln, a1, a2, a3⟩ := r1
     have rg:=Bv hl hN.pts k (pt:=⟨g,d,s.2.next⟩) a1 a2 a3 hv'
     obtain ⟨r,hr57,k1,k2⟩:=s57 hl hN.pts k (pt:=⟨g,d,s.2.next⟩) (m:=m2) big (Sa _ (by omega)) a1 a2 a3 hv' i2
     have hw:w64 (w64 (q.2 + s.2.moves) + r.1)=q.2 + s.2.moves + cs l gs k ⟨g,d,s.2.next⟩:=by
      rw [k1,Tl (n:=q.2 + s.2.moves) (by omega) (by omega)]
      exact Tl (by omega) (by unfold Ti at rg; omega)
     by_cases h5:q.2 + s.2.moves + cs l gs k ⟨g,d,s.2.next⟩=M
     ·have hE := (hel _ _).2 ⟨rfl, rfl, h5⟩
      refine Yes.jn (Gj (false,r.2) (by rw [decide_eq_false hc]; simp only [Bool.not_true,cond_false]; rw [hr57,Option.bind_some,hw,h5]; simp) (Tw rfl ?_))
      have hwm:w64 (q.2 + s.2.moves)=q.2 + s.2.moves:=Tl (by omega) (by omega)
      by_cases hlt:s.2.colour < b
      ·refine Gj (s.2.colour, some []) (by rw [decide_eq_true hlt]; rfl) (Gj [] rfl (Yes.some ⟨rfl, ?_, k2⟩))
       show J _ s.2.colour (some (Hg [] _ (w64 (q.2 + s.2.moves))))
       rw [hwm]
       exact (i1.less hlt).congr (add hE)
      ·have hbe : b = s.2.colour := by omega
       subst hbe
       obtain ⟨nx',e1,e2⟩:=i1.put (by unfold Ti; omega) (hfun hE)
       subst e1
       refine Gj (s.2.colour,some nx') (by rw [decide_eq_false hlt]; rfl) (Gj nx' rfl (Yes.some ⟨rfl,?_,k2⟩))
       show J _ s.2.colour (some (Hg nx' _ (w64 (q.2 + s.2.moves))))
       rw [hwm]
       exact e2.congr (add hE)
     ·refine Yes.jn (Gj (true,r.2) (by rw [decide_eq_false hc]; simp only [Bool.not_true,cond_false]; rw [hr57,Option.bind_some,hw]; simp [h5]) (Qr rfl (Yes.some ⟨rfl,i1.congr (same fun to v hh=>h5 ((hel to v).1 hh).2.2),k2⟩)))
  ·obtain ⟨b, nx, m2⟩ := s
   obtain ⟨i1,i2⟩:=hI
   rw [List.take_length] at i1
   refine hkk _ ⟨P ++ [q],hpq,i1.congr fun c to v=>⟨fun hh=>?_,fun ⟨e,he,hh⟩=>?_⟩,i2⟩ hlr
   ·rcases hh with ⟨e, he, hh⟩ | hh
    ·exact ⟨e,by simp [he],hh⟩
    ·exact ⟨q,by simp,hst ▸ hh⟩
   ·rcases List.mem_append.1 he with he | he
    ·exact .inl ⟨e,he,hh⟩
    ·rw [List.mem_singleton.1 he] at hh; exact .inr (hst ▸ hh)
end
end Go.Proofs.Ytmpjooneiaiffaa
