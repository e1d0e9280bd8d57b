/- Laws of plain functions, part 3. -/
import Derived.Test.YtlmibfohllgmeaaGreatBdB2
set_option maxRecDepth 8000
namespace Go.Proofs.YtlmibfohllgmeaaGreat
open Go.RowKit
open Classical
section
variable {κ ν:Type} [DecidableEq κ]
variable {C C':Int→Gd→Int→Prop} {col:Int} {nxt:Option (List (Gd × Int))} {c v:Int} {to:Gd}
variable {l:BoxLoom} {gs:List (List Int)} {V:Gd→Nat→Prop} {N:Int→Int→Int→Option (Int × Int)}
theorem s67X (hl : Kd l) (hN : NxX gs V N) {k : Nat} (hk : k < 1000) {now m : List (Gd × Int)} {M : Int} (hlen : now.length < 18446744073709551616)
  (hnow:∀ e ∈ now,Mp l e.1.race∧V e.1 (k + 1)∧0 ≤ e.2∧e.2 ≤ 1073741824) (hm:Sw (Th l 0) (Th l 1) gs V m) :
  Yes (f45 ⟨(Th l 0:Int),(Th l 1:Int),⟨⟩⟩ m gs now M) (Lg fun r=>JX (Fj l gs N k M now) r.1 r.2.1∧Sw (Th l 0) (Th l 1) gs V r.2.2):=by
 unfold f45
 refine Yes.jn ?_
 refine Yes.lp (fun s=>∃ P,(P ++ s.2.2.1).Perm now∧JX (Fj l gs N k M P) s.1 s.2.1∧Sw (Th l 0) (Th l 1) gs V s.2.2.2) (fun s=>s.2.2.1.length) ⟨[],List.Perm.refl _,.inl ⟨rfl,rfl,fun c to v h=>by obtain ⟨e,he,_⟩:=h; cases he⟩,hm⟩ (by simp only; omega) ?_
 rintro ⟨col,nxt,rem,mm⟩ kk ⟨P,hp,hJ,hK⟩ hkk
 simp only at hp hJ hK
 refine Yes.cond (fun he=>?_) (fun he=>?_)
 ·have hre : rem = [] := by simpa using he
  subst hre
  rw [List.append_nil] at hp
  refine Yes.some (Lg.one ⟨hJ.congr fun c to v=>⟨fun ⟨e,h1,h2⟩=>⟨e,hp.mem_iff.1 h1,h2⟩,fun ⟨e,h1,h2⟩=>⟨e,hp.mem_iff.2 h1,h2⟩⟩,hK⟩)
 ·have hre : rem ≠ [] := by rintro rfl; simp at he
  refine Yes.pickL hre fun q rm hq=>?_
  have hpq:(P ++ [q] ++ rm).Perm now:=by
   rw [List.append_assoc]; exact ((List.Perm.append_left P hq.symm)).trans hp
  have hmem:q ∈ now:=hpq.mem_iff.1 (by simp)
  obtain ⟨hr,hv,hb0,hb1⟩:=hnow q hmem
  have hr':=hr
  obtain ⟨l',h1,h2,h3⟩:=hr
  have key:∀ {σ:Type} {cons:Dn σ (Gg × Tg)} {s0:σ} {Q:σ→Prop},Yes (Xb cons (Jz l') s0) Q→Yes (f131 ⟨⟨(Th l 0:Int),(Th l 1:Int),⟨⟩⟩⟩ q.1.race σ cons s0) Q:=fun h=>by
   have:=s98X h1 h
   rw [Ws h2,Ws h2,← h3] at this; exact this
  have hst:Jz l'=Rv (Th l 0) (Th l 1) q.1.race:=by rw [h3,← Ws h2,← Ws h2,Sp h1]
  have hlr:rm.length < rem.length:=by have:=hq.length_eq; simp at this; omega
  unfold f84
  rw [Option.bind_some]
  refine Yes.bind ?_
  show Yes (f131 _ _ _ _ _) _
  refine key (Rh (Jz l') (fun i s=>JX (fun c to v=>Fj l gs N k M P c to v ∨ Ej l gs N k M q ((Jz l').take i) c to v) s.1 s.2.1∧Sw (Th l 0) (Th l 1) gs V s.2.2) _ ⟨hJ.congr fun c to v=>⟨.inl,fun h=>?_⟩,hK⟩ (fun i h s hI=>?_) (fun s hI=>?_))
  ·rcases h with h | ⟨s, hs, _⟩
   ·exact h
   ·simp at hs
  ·obtain ⟨b, nx, m2⟩ := s
   obtain ⟨i1,i2⟩:=hI
   simp only at i1 i2
   have hin:(Jz l')[i] ∈ Rv (Th l 0) (Th l 1) q.1.race:=hst ▸ List.getElem_mem h
   obtain ⟨r1,r2,r3,r4,r5⟩:=hr'.pk hin
   generalize hs:(Jz l')[i]=s at hin r1 r2 r3 r4 r5
   -- what the next pick brings
   have add:∀ {to:Gd} {v:Int},EligX l gs N k M q s s.2.colour to v→∀ a b d,((Fj l gs N k M P a b d ∨ Ej l gs N k M q ((Jz l').take i) a b d) ∨ (a=s.2.colour∧b=to∧d=v)) ↔ (Fj l gs N k M P a b d ∨ Ej l gs N k M q ((Jz l').take (i + 1)) a b d):=fun {to v} hel a b d=>by
    constructor
    ·rintro ((hh | ⟨t, ht, hh⟩) | ⟨rfl, rfl, rfl⟩)
     ·exact .inl hh
     ·exact .inr ⟨t,(Dg h).2 (.inl ht),hh⟩
     ·exact .inr ⟨s,(Dg h).2 (.inr hs.symm),hel⟩
    ·rintro (hh | ⟨t, ht, hh⟩)
     ·exact .inl (.inl hh)
     ·rcases (Dg h).1 ht with ht | ht
      ·exact .inl (.inr ⟨t,ht,hh⟩)
      ·rw [hs] at ht; subst ht
       obtain ⟨c1,c2,c3,c4,c5⟩:=hh
       obtain ⟨_,d2,d3,d4,d5⟩:=hel
       rw [d2] at c2
       obtain ⟨tg,td,tr⟩:=to
       obtain ⟨bg,bd,br⟩:=b
       simp only at c2 c3 d3
       cases c2
       refine .inr ⟨c1,by rw [c3,d3],by omega⟩
   have same:(∀ to v,¬ EligX l gs N k M q s s.2.colour to v)→∀ a b d,(Fj l gs N k M P a b d ∨ Ej l gs N k M q ((Jz l').take i) a b d) ↔ (Fj l gs N k M P a b d ∨ Ej l gs N k M q ((Jz l').take (i + 1)) a b d):=fun hno a b d=>by
    refine or_congr_right ⟨fun ⟨t,ht,hh⟩=>⟨t,(Dg h).2 (.inl ht),hh⟩,fun ⟨t,ht,hh⟩=>?_⟩
    rcases (Dg h).1 ht with ht | ht
    ·exact ⟨t,ht,hh⟩
    ·rw [hs] at ht; subst ht
     have:=hh.1; subst this
     exact absurd hh (hno _ _)
   have hfun:∀ {to:Gd} {v:Int},EligX l gs N k M q s s.2.colour to v→∀ v',(Fj l gs N k M P s.2.colour to v' ∨ Ej l gs N k M q ((Jz l').take i) s.2.colour to v')→v'=v:=fun hel v' hh=>by
    have e1:=hel.2.2.2.2
    rcases hh with hh | hh
    ·have:=hh.sum; omega
    ·have:=hh.sum; omega
   show Yes ((f85 q.1 gs s.2).bind _) _
   cases hn:N q.1.group q.1.done s.2.colour with
   | none=>
    obtain ⟨to,e⟩:=hN.no hv hn
    rw [e,Option.bind_some]
    refine Yes.jn (Gw (true,m2) rfl (Ww rfl (Yes.some ⟨rfl,i1.congr (same fun to v hel=>?_),i2⟩)))
    have:=hel.2.1; rw [hn] at this; cases this
   | some x=>
    obtain ⟨g,d⟩:=x
    have e:=hN.yes hv hn
    have hv':=hN.to (s:=s.2) hv hn
    rw [e,Option.bind_some]
    have hel:∀ to v,EligX l gs N k M q s s.2.colour to v ↔ to=⟨g,d,s.2.next⟩∧v=q.2 + s.2.moves∧q.2 + s.2.moves + csX l gs k ⟨g,d,s.2.next⟩=M:=fun to v=>by
     constructor
     ·rintro ⟨_, c2, c3, c4, c5⟩
      rw [hn] at c2
      obtain ⟨tg,td,tr⟩:=to
      simp only at c2 c3
      cases c2; subst c3
      exact ⟨rfl,c4,by rw [← c4]; exact c5⟩
     ·rintro ⟨rfl, rfl, h5⟩
      exact ⟨rfl,hn,rfl,rfl,h5⟩
    by_cases hc:s.2.colour > b
    ·refine Yes.jn (Gw (true, m2) (by rw [decide_eq_true hc]; rfl) (Ww rfl (Yes.some ⟨rfl, ?_, i2⟩)))
     by_cases h5:q.2 + s.2.moves + csX l gs k ⟨g,d,s.2.next⟩=M
     ·exact (i1.skip hc (by unfold Tj; omega)).congr (add ((hel _ _).2 ⟨rfl,rfl,h5⟩))
     ·exact i1.congr (same fun to v hh=>h5 ((hel to v).1 hh).2.2)
    ·obtain ⟨ln, a1, a2, a3⟩ := r1
     have rg:=Bf hl hN.pts k (pt:=⟨g,d,s.2.next⟩) a1 a2 a3 hv'
     obtain ⟨r,hr57,k1,k2⟩:=s57X hl hN.pts k (pt:=⟨g,d,s.2.next⟩) (m:=m2) big (Lp _ (by omega)) a1 a2 a3 hv' i2
     have hw:w64 (w64 (q.2 + s.2.moves) + r.1)=q.2 + s.2.moves + csX l gs k ⟨g,d,s.2.next⟩:=by
      rw [k1,Ql (n:=q.2 + s.2.moves) (by omega) (by omega)]
      exact Ql (by omega) (by unfold Tj at rg; omega)
     by_cases h5:q.2 + s.2.moves + csX l gs k ⟨g,d,s.2.next⟩=M
     ·have hE := (hel _ _).2 ⟨rfl, rfl, h5⟩
      refine Yes.jn (Gw (false,r.2) (by rw [decide_eq_false hc]; simp only [Bool.not_true,cond_false]; rw [hr57,Option.bind_some,hw,h5]; simp) (Wr rfl ?_))
      have hwm:w64 (q.2 + s.2.moves)=q.2 + s.2.moves:=Ql (by omega) (by omega)
      by_cases hlt:s.2.colour < b
      ·refine Gw (s.2.colour, some []) (by rw [decide_eq_true hlt]; rfl) (Gw [] rfl (Yes.some ⟨rfl, ?_, k2⟩))
       show JX _ s.2.colour (some (Hf [] _ (w64 (q.2 + s.2.moves))))
       rw [hwm]
       exact (i1.less hlt).congr (add hE)
      ·have hbe : b = s.2.colour := by omega
       subst hbe
       obtain ⟨nx',e1,e2⟩:=i1.put (by unfold Tj; omega) (hfun hE)
       subst e1
       refine Gw (s.2.colour,some nx') (by rw [decide_eq_false hlt]; rfl) (Gw nx' rfl (Yes.some ⟨rfl,?_,k2⟩))
       show JX _ s.2.colour (some (Hf nx' _ (w64 (q.2 + s.2.moves))))
       rw [hwm]
       exact e2.congr (add hE)
     ·refine Yes.jn (Gw (true,r.2) (by rw [decide_eq_false hc]; simp only [Bool.not_true,cond_false]; rw [hr57,Option.bind_some,hw]; simp [h5]) (Ww rfl (Yes.some ⟨rfl,i1.congr (same fun to v hh=>h5 ((hel to v).1 hh).2.2),k2⟩)))
  ·obtain ⟨b, nx, m2⟩ := s
   obtain ⟨i1,i2⟩:=hI
   rw [List.take_length] at i1
   refine hkk _ ⟨P ++ [q],hpq,i1.congr fun c to v=>⟨fun hh=>?_,fun ⟨e,he,hh⟩=>?_⟩,i2⟩ hlr
   ·rcases hh with ⟨e, he, hh⟩ | hh
    ·exact ⟨e,by simp [he],hh⟩
    ·exact ⟨q,by simp,hst ▸ hh⟩
   ·rcases List.mem_append.1 he with he | he
    ·exact .inl ⟨e,he,hh⟩
    ·rw [List.mem_singleton.1 he] at hh; exact .inr (hst ▸ hh)
end
theorem Aa {α : Type} : ∀ {xs ys : List α}, xs.Nodup → (∀ x ∈ xs, x ∈ ys) → xs.length ≤ ys.length
 | [],_,_,_=>Nat.zero_le _
 | x :: xs,ys,hn,hs=>by
  rw [List.nodup_cons] at hn
  obtain ⟨a,b,rfl⟩:=List.append_of_mem (hs x (by simp))
  have:=Aa (xs:=xs) (ys:=a ++ b) hn.2 fun y hy=>by
   have h1:=hs y (by simp [hy])
   have h2:y ≠ x:=fun e=>hn.1 (e ▸ hy)
   rcases List.mem_append.1 h1 with h | h
   ·exact List.mem_append_left _ h
   ·rcases List.mem_cons.1 h with h | h
    ·exact absurd h h2
    ·exact List.mem_append_right _ h
  simp at this ⊢; omega
def LxX : List Int → List Int → Prop
 | [],_=>True
 | _ :: _,[]=>False
 | x :: a,y :: b=>x < y ∨ (x=y∧LxX a b)
theorem LxX.snoc {c : Int} : ∀ {pre o : List Int}, LxX pre o → pre.length < o.length → (∀ c' o', o = pre ++ c' :: o' → c ≤ c') → LxX (pre ++ [c]) o
 | [],o,_,h,hc=>by
  cases o with
  | nil=>simp at h
  | cons y b=>
   have:=hc y b rfl
   show c < y ∨ (c=y∧True)
   by_cases e:c=y
   ·exact .inr ⟨e,trivial⟩
   ·exact .inl (by omega)
 | x :: a,o,hx,h,hc=>by
  cases o with
  | nil=>exact hx.elim
  | cons y b=>
   rcases hx with hx | ⟨rfl,hx⟩
   ·exact .inl hx
   ·exact .inr ⟨rfl,LxX.snoc hx (by simpa using h) fun c' o' e=>hc c' o' (by rw [e]; rfl)⟩
theorem LxX.eq : ∀ {a b : List Int}, LxX a b → LxX b a → a.length = b.length → a = b
 | [],[],_,_,_=>rfl
 | [],_ :: _,_,_,h=>by simp at h
 | _ :: _,[],_,_,h=>by simp at h
 | x :: a,y :: b,h1,h2,h=>by
  rcases h1 with h1 | ⟨rfl,h1⟩
  ·rcases h2 with h2 | ⟨rfl,_⟩ <;> omega
  ·rcases h2 with h2 | ⟨_, h2⟩
   ·omega
   ·rw [LxX.eq h1 h2 (by simpa using h)]
theorem Dj.len {N : Int → Int → Int → Option (Int × Int)} : ∀ {k : Nat} {g d : Int} {o : List Int}, Dj N k g d o → o.length = k
 | 0,_,_,_,h=>by rw [show _=[] from h]; rfl
 | k + 1,_,_,_,⟨c,o',g',d',h,_,h2⟩=>by rw [h,List.length_cons,Dj.len h2]
section
variable {l:BoxLoom} {gs:List (List Int)} {V:Gd→Nat→Prop} {N:Int→Int→Int→Option (Int × Int)} {K:Nat} {first:Gd} {M:Int}
def Cu (l:BoxLoom) (N:Int→Int→Int→Option (Int × Int)) (K:Nat) (first:Gd) (M:Int) (o:List Int):Prop:=Dj N K first.group first.done o∧cRX (Th l 0) (Th l 1) o first.race=M
end
section
variable {l:BoxLoom} {gs:List (List Int)} {V:Gd→Nat→Prop} {N:Int→Int→Int→Option (Int × Int)} {K:Nat} {first:Gd} {M:Int}
structure GIX (l : BoxLoom) (gs : List (List Int)) (V : Gd → Nat → Prop) (N : Int → Int → Int → Option (Int × Int)) (K : Nat) (first : Gd) (M : Int) (k : Nat) (pre : List Int) (now : List (Gd × Int)) : Prop where
 ne:now ≠ []
 v:∀ e ∈ now,Mp l e.1.race∧V e.1 k∧0 ≤ e.2∧e.2 + csX l gs k e.1=M
 b:∀ o,(∃ e ∈ now,Dj N k e.1.group e.1.done o∧e.2 + cRX (Th l 0) (Th l 1) o e.1.race=M) ↔ Cu l N K first M (pre ++ o)
 c:∀ o,Cu l N K first M o→LxX pre o
 len:pre.length + k=K
 sz:now.length ≤ 16 ^ pre.length
end
section
variable {l:BoxLoom} {gs:List (List Int)} {V:Gd→Nat→Prop} {N:Int→Int→Int→Option (Int × Int)} {K:Nat} {first:Gd} {M:Int}
theorem GIX.start (hr : Mp l first.race) (hv : V first K) (hM : csX l gs K first = M) : GIX l gs V N K first M K [] [(first, 0)] where
 ne:=by simp
 v:=fun e he=>by rw [List.mem_singleton.1 he]; exact ⟨hr,hv,Int.le_refl _,by rw [Int.zero_add]; exact hM⟩
 b:=fun o=>by simp [Cu]
 c:=fun o _=>trivial
 len:=by simp
 sz:=by simp
end
section
variable {l:BoxLoom} {gs:List (List Int)} {V:Gd→Nat→Prop} {N:Int→Int→Int→Option (Int × Int)} {K:Nat} {first:Gd} {M:Int}
theorem GIX.elig (hN : NxX gs V N) (hM : M < Tj) {k : Nat} {pre : List Int} {now : List (Gd × Int)} (h : GIX l gs V N K first M (k + 1) pre now) {c : Int} {o : List Int} (ho : Cu l N K first M (pre ++ c :: o)) :
  ∃ to v,Fj l gs N k M now c to v∧Dj N k to.group to.done o∧v + cRX (Th l 0) (Th l 1) o to.race=M:=by
 obtain ⟨e,he,⟨c',o',g',d',heq,hn,ho'⟩,hc⟩:=(h.b _).2 ho
 cases heq
 obtain ⟨hr,hv,h0,hs⟩:=h.v e he
 rw [show cRX (Th l 0) (Th l 1) (c :: o) e.1.race=(Rv (Th l 0) (Th l 1) e.1.race).foldl (Mq (Ex c (cRX (Th l 0) (Th l 1) o))) Tj from rfl] at hc
 rcases (Rg (φ:=Ex c (cRX (Th l 0) (Th l 1) o)) (t:=M - e.2) (Rv (Th l 0) (Th l 1) e.1.race) Tj).1 (by omega) with hh | ⟨s,hs',u,hu,hu2⟩
 ·omega
 unfold Ex at hu
 split at hu
 ·rename_i hcol
  subst hcol
  cases hu
  obtain ⟨r1,r2,_⟩:=hr.pk hs'
  have hv':=hN.to (s:=s.2) hv hn
  have e1:=Dl (l:=l) hN (pt:=⟨g',d',s.2.next⟩) r1 hv' ho'
  have e2:=cst_stepX (l:=l) hN hv hs' hn
  have e3:e.2 + s.2.moves + csX l gs k ⟨g',d',s.2.next⟩=M:=by
   have a1:csX l gs k ⟨g',d',s.2.next⟩ ≤ cRX (Th l 0) (Th l 1) o s.2.next:=e1
   have a2:csX l gs (k + 1) e.1 ≤ s.2.moves + csX l gs k ⟨g',d',s.2.next⟩:=e2
   omega
  refine ⟨⟨g',d',s.2.next⟩,e.2 + s.2.moves,⟨e,he,s,hs',rfl,hn,rfl,rfl,e3⟩,ho',?_⟩
  have a1:csX l gs k ⟨g',d',s.2.next⟩ ≤ cRX (Th l 0) (Th l 1) o s.2.next:=e1
  show e.2 + s.2.moves + cRX (Th l 0) (Th l 1) o s.2.next=M
  omega
 ·cases hu
end
section
variable {l:BoxLoom} {gs:List (List Int)} {V:Gd→Nat→Prop} {N:Int→Int→Int→Option (Int × Int)} {K:Nat} {first:Gd} {M:Int}
theorem pkR_lenX (hl:Kd l) (r:Tf):(Rv (Th l 0) (Th l 1) r).length ≤ 16:=Nat.le_trans (List.length_filterMap_le _ _) (allP_lenX hl)
end
section
variable {l:BoxLoom} {gs:List (List Int)} {V:Gd→Nat→Prop} {N:Int→Int→Int→Option (Int × Int)} {K:Nat} {first:Gd} {M:Int}
theorem Nl {α β : Type} {f : α → List β} {n : Nat} (h : ∀ x, (f x).length ≤ n) : ∀ xs : List α, (xs.flatMap f).length ≤ xs.length * n
 | []=>by simp
 | x :: xs=>by
  have:=Nl h xs
  have:=h x
  rw [List.flatMap_cons,List.length_append,List.length_cons,Nat.succ_mul]; omega
end
section
variable {l:BoxLoom} {gs:List (List Int)} {V:Gd→Nat→Prop} {N:Int→Int→Int→Option (Int × Int)} {K:Nat} {first:Gd} {M:Int}
theorem GIX.step (hl : Kd l) (hN : NxX gs V N) (hM : M < Tj) {k : Nat} {pre : List Int} {now : List (Gd × Int)} (h : GIX l gs V N K first M (k + 1) pre now) {col : Int} {nxt : Option (List (Gd × Int))} (hJ : JX (Fj l gs N k M now) col nxt) :
  ∃ nx,nxt=some nx∧GIX l gs V N K first M k (pre ++ [col]) nx:=by
 have hex:∃ c to v,Fj l gs N k M now c to v:=by
  obtain ⟨e,he⟩:=List.exists_mem_of_ne_nil _ h.ne
  obtain ⟨hr,hv,h0,hs⟩:=h.v e he
  rcases (Ph hN (k + 1) (t:=csX l gs (k + 1) e.1) hr hv).1 (Int.le_refl _) with hh | ⟨o,ho,hh⟩
  ·omega
  ·have h2 := Dl (l := l) hN hr hv ho
   have h3:csX l gs (k + 1) e.1 ≤ cRX (Th l 0) (Th l 1) o e.1.race:=h2
   have hO:=(h.b o).1 ⟨e,he,ho,by omega⟩
   obtain ⟨c,o',_,_,rfl,_,_⟩:=ho
   obtain ⟨to,v,h4,_⟩:=h.elig hN hM hO
   exact ⟨c,to,v,h4⟩
 rcases hJ with ⟨_,_,hno⟩ | ⟨nx,hnx,hc9,⟨t0,v0,h0⟩,hmin,his⟩
 ·obtain ⟨c,to,v,hh⟩:=hex; exact absurd hh (hno c to v)
 refine ⟨nx,hnx,?_,?_,?_,?_,?_,?_⟩
 ·intro hn
  have:=(his.2 t0 v0).2 h0
  rw [hn] at this; cases this
 ·rintro ⟨to, v⟩ he
  obtain ⟨e,he',s,hs,c1,c2,c3,c4,c5⟩:=(his.2 to v).1 he
  obtain ⟨hr,hv,hb,_⟩:=h.v e he'
  obtain ⟨r1,r2,_⟩:=hr.pk hs
  have hv':=hN.to (s:=s.2) hv c2
  refine ⟨by show Mp l to.race; rw [c3]; exact r1,?_,by show 0 ≤ v; omega,c5⟩
  show V to k
  obtain ⟨tg,td,tr⟩:=to
  simp only at c3 hv'
  rw [c3]; exact hv'
 ·intro o
  have hassoc:pre ++ [col] ++ o=pre ++ col :: o:=by simp
  rw [hassoc]
  constructor
  ·rintro ⟨⟨to, v⟩, he, ho, hc⟩
   obtain ⟨e,he',s,hs,c1,c2,c3,c4,c5⟩:=(his.2 to v).1 he
   obtain ⟨hr,hv,hb,hsum⟩:=h.v e he'
   simp only at ho hc
   have hO:Dj N (k + 1) e.1.group e.1.done (col :: o):=⟨col,o,to.group,to.done,rfl,by rw [c1]; exact c2,ho⟩
   refine (h.b (col :: o)).1 ⟨e,he',hO,?_⟩
   have h2:csX l gs (k + 1) e.1 ≤ cRX (Th l 0) (Th l 1) (col :: o) e.1.race:=Dl (l:=l) hN hr hv hO
   have h3:cRX (Th l 0) (Th l 1) (col :: o) e.1.race ≤ s.2.moves + cRX (Th l 0) (Th l 1) o s.2.next:=by
    rw [cRX,Rg]
    exact .inr ⟨s,hs,_,by unfold Ex; rw [if_pos c1.symm],Int.le_refl _⟩
   rw [c3] at hc
   omega
  ·intro hO
   obtain ⟨to,v,h1,h2,h3⟩:=h.elig hN hM hO
   exact ⟨(to,v),(his.2 to v).2 h1,h2,h3⟩
 ·intro o hO
  have hlen:=hO.1.len
  refine (h.c o hO).snoc (by have:=h.len; omega) fun c' o' e=>?_
  subst e
  obtain ⟨to,v,h1,_⟩:=h.elig hN hM hO
  exact hmin _ _ _ h1
 ·have:=h.len; simp; omega
 ·have hnd : nx.Nodup := (List.pairwise_map.1 his.1).imp fun h e => h (by rw [e])
  have h1:=Aa (ys:=now.flatMap fun e=>(Rv (Th l 0) (Th l 1) e.1.race).map fun s=>((⟨((N e.1.group e.1.done s.2.colour).getD (0,0)).1,((N e.1.group e.1.done s.2.colour).getD (0,0)).2,s.2.next⟩:Gd),e.2 + s.2.moves)) hnd fun x hx=>by
   obtain ⟨to,v⟩:=x
   obtain ⟨e,he',s,hs,c1,c2,c3,c4,c5⟩:=(his.2 to v).1 hx
   refine List.mem_flatMap.2 ⟨e,he',List.mem_map.2 ⟨s,hs,?_⟩⟩
   rw [c2,← c4,← c3]; rfl
  have h2:=Nl (f:=fun e:Gd × Int=>(Rv (Th l 0) (Th l 1) e.1.race).map fun s=>((⟨((N e.1.group e.1.done s.2.colour).getD (0,0)).1,((N e.1.group e.1.done s.2.colour).getD (0,0)).2,s.2.next⟩:Gd),e.2 + s.2.moves)) (n:=16) (fun e=>by rw [List.length_map]; exact pkR_lenX hl _) now
  have h3:=h.sz
  rw [List.length_append,List.length_singleton,Nat.pow_succ]
  exact Nat.le_trans h1 (Nat.le_trans h2 (Nat.mul_le_mul_right _ h3))
end
section
variable {l:BoxLoom} {gs:List (List Int)} {V:Gd→Nat→Prop} {N:Int→Int→Int→Option (Int × Int)} {K:Nat} {first:Gd} {M:Int}
theorem GIX.fin {pre:List Int} {now:List (Gd × Int)} (h:GIX l gs V N K first M 0 pre now):Cu l N K first M pre∧∀ o,Cu l N K first M o→LxX pre o:=by
 obtain ⟨e,he⟩:=List.exists_mem_of_ne_nil _ h.ne
 obtain ⟨_,_,_,hs⟩:=h.v e he
 have:=(h.b []).1 ⟨e,he,rfl,by rw [cRX]; exact hs⟩
 rw [List.append_nil] at this
 exact ⟨this,h.c⟩
end
theorem s64X (xs:List (List Int)) (φ:List Int→Option Bool) (p:List Int→Bool) (hl:xs.length < 9223372036854775807) (h:∀ a ∈ xs,φ a=some (p a)):f42 xs φ=some (xs.any p):=
 Yes.eq (Yes.bind (Yes.mono (Be xs φ p hl h) fun _ hr=>Yes.some (Xy hr)))
theorem Md {gs:List (List Int)} {i:Nat} (h:i < gs.length):(gs.take (i + 1)).flatten=(gs.take i).flatten ++ gs[i]:=by
 rw [List.take_succ_eq_append_getElem h,List.flatten_append]; congr 1; simp
theorem Et {n : Nat} : ∀ {gs : List (List Int)}, (∀ g ∈ gs, g.length ≤ n) → gs.flatten.length ≤ gs.length * n
 | [],_=>by simp
 | g :: gs,h=>by
  have:=Et (gs:=gs) fun x hx=>h x (by simp [hx])
  have:=h g (by simp)
  rw [List.flatten_cons,List.length_append,List.length_cons,Nat.succ_mul]; omega
theorem flat_tkX {n:Nat} {gs:List (List Int)} (h:∀ g ∈ gs,g.length ≤ n) (i:Nat):(gs.take i).flatten.length ≤ gs.length * n:=by
 have h1:=Et (n:=n) (gs:=gs.take i) fun g hg=>h g (List.mem_of_mem_take hg)
 have h2:(gs.take i).length ≤ gs.length:=by rw [List.length_take]; omega
 exact Nat.le_trans h1 (Nat.mul_le_mul_right _ h2)
theorem s91X {n:Int} (h:0 ≤ n∧n ≤ 1000):f87 n=some []:=by
 unfold f87
 rw [decide_eq_false (show ¬ n < 0 by omega)]
 simp only [cond_false,Option.bind_some]
 have e:w64 (n - w64 (((0:Nat):Int) - (([]:List Int).length:Int)))=n:=by
  rw [show (((0:Nat):Int) - (([]:List Int).length:Int))=0 by simp,Ql (n:=0) (by omega) (by omega),Int.sub_zero,Ql (by omega) (by omega)]
 rw [e]
 by_cases h0:n > 0
 ·rw [decide_eq_true h0, cond_true]
  have:grwz 8 n=some ():=by unfold grwz; rw [if_pos ⟨by omega,by omega,by omega⟩]
  rw [this]; rfl
 ·rw [decide_eq_false h0]; rfl
theorem Yes.callL {α β:Type} {rs:List α} {k:α→Option β} {Q:β→Prop} (hu:∀ a b,Q a→Q b→a=b) (hne:rs ≠ []) (h:∀ a ∈ rs,Yes (k a) Q):Yes (Go.Proofs.YtlmibfohllgmeaaGreat.callL rs k) Q:=by
 obtain ⟨a,ha⟩:=List.exists_mem_of_ne_nil _ hne
 obtain ⟨b,hb,hq⟩:=h a ha
 refine ⟨b,callL_eqX hne fun c hc=>?_,hq⟩
 obtain ⟨d,hd,hq'⟩:=h c hc
 rw [hd,hu d b hq' hq]
theorem s66X {gs:List (List Int)} (h:gs.length ≤ 12) (h3:∀ g ∈ gs,g.length ≤ 12):Yes (f44 gs) (fun r=>r=gs.flatten):=by
 have hb:=flat_tkX h3
 unfold f44
 refine Yes.bind (Yes.mono (Q':=fun n=>n=(gs.flatten.length:Int)) ?_ fun n hn=>?_)
 ·refine Yes.upto gs.length (by omega) (fun i s => s = (((gs.take i).flatten.length : Nat) : Int)) (by simp) (fun i s k hi hI hk => ?_) (fun s k hI => ?_)
  ·subst hI
   have h1:=hb i
   have h2:=h3 _ (List.getElem_mem hi)
   have hw:w64 ((((gs.take i).flatten.length:Nat):Int) + (gs[i].length:Int))=(((gs.take (i + 1)).flatten.length:Nat):Int):=by
    rw [Ql (by omega) (by omega),Md hi,List.length_append]; omega
   refine Ww (decide_eq_true (by omega)) (Gw (((gs.take (i + 1)).flatten.length:Nat):Int) ?_ (hk _ rfl))
   rw [Xk hi,Option.bind_some,hw,decide_eq_false (by omega)]; rfl
  ·subst hI
   exact Wr (decide_eq_false (by omega)) (Yes.some (by rw [List.take_length]))
 ·subst hn
  have h1:=hb gs.length
  rw [List.take_length] at h1
  refine Gw [] (s91X (by omega)) (Yes.bind ?_)
  refine Yes.upto gs.length (by omega) (fun i s=>s=(gs.take i).flatten) (by simp) (fun i s k hi hI hk=>?_) (fun s k hI=>?_)
  ·subst hI
   have h1:=hb i
   have h2:=h3 _ (List.getElem_mem hi)
   refine Ww (decide_eq_true (by omega)) (Yes.bind (Yes.bind (Yes.idx rfl hi (Yes.bind (Yes.apnd (by omega) (by omega) (Yes.some (hk _ ?_)))))))
   rw [Md hi]
  ·subst hI
   exact Wr (decide_eq_false (by omega)) (Yes.some (Yes.some (by rw [List.take_length])))
section
variable {l:BoxLoom} {gs:List (List Int)} {V:Gd→Nat→Prop} {N:Int→Int→Int→Option (Int × Int)} {K:Nat} {first:Gd}
theorem s25X (hl : Kd l) (hg : gs.length ≤ 8) (h3 : ∀ g ∈ gs, g.length ≤ 3) (hc : ∀ g ∈ gs, g.all (Vt 0 9) = true) (hN : NxX gs V N) (hf : f43 ⟨0, 0, rcX l⟩ gs = some first) (hfr : first.race = rcX l) (hV : V first K) (hK : K ≤ 12) (hcat : gs.flatten.length = K) :
  Yes (f11 l gs) fun r=>(Tj ≤ csX l gs K first→r=([],0,9))∧(csX l gs K first < Tj→r.2=(csX l gs K first,0)∧Cu l N K first (csX l gs K first) r.1∧∀ o,Cu l N K first (csX l gs K first) o→LxX r.1 o):=by
 have hr:Mp l first.race:=⟨l,hl,rfl,hfr⟩
 unfold f11
 refine Gw _ (s51X l hl.sml) (Yes.jn (Wr (by rw [chk0X.2 hl]; rfl) (Gw false (by rw [decide_eq_false (by omega),cond_false,s64X gs _ (fun g=>decide ((g.length:Int) > 3)) (by omega) (fun g _=>by unfold f40; rfl)]; rw [Option.bind_some]; congr 1; rw [List.any_eq_false]; intro g hgm; have:=h3 g hgm; simp; omega) (Wr rfl (Gw false ?_ (Wr rfl ?_))))))
 ·rw [s64X gs _ (fun g => !g.all (Vt 0 9)) (by omega) (fun g hgm => by unfold f41; rw [s52X g (by have := h3 g hgm; omega)]; rfl)]
  congr 1; rw [List.any_eq_false]; intro g hgm; rw [hc g hgm]; simp
 refine Gw _ (s56X hl) (Gw _ (s54rX hl) (Gw _ hf (Yes.jn (Yes.bind ((s57X hl hN.pts K big (Lp _ (by omega)) hl rfl hfr hV Aw).mono fun r hr57=>?_)))))
 obtain ⟨r1,r2⟩:=hr57
 have r1:r.1=csX l gs K first:=r1
 have rg:0 ≤ csX l gs K first∧csX l gs K first ≤ Tj:=Bf hl hN.pts K hl rfl hfr hV
 refine Yes.cond (fun hge=>?_) (fun hge=>?_)
 ·have : Tj ≤ csX l gs K first := by rw [← r1]; exact of_decide_eq_true hge
  exact Yes.some ⟨fun _=>rfl,fun h=>by omega⟩
 have hlt:csX l gs K first < Tj:=by have:=of_decide_eq_false hge; rw [r1] at this; unfold Tj; omega
 generalize hM:csX l gs K first=M at r1 rg hlt
 rw [r1]
 refine Yes.jn (Yes.bind ((s66X (by omega) (fun g hgm=>by have:=h3 g hgm; omega)).mono fun fl hfl=>?_))
 subst hfl
 refine Yes.mono (Q':=fun r=>r.2=(M,0)∧Cu l N K first M r.1∧∀ o,Cu l N K first M o→LxX r.1 o) ?_ fun r hr=>⟨fun h=>by omega,fun _=>hr⟩
 have huniq:∀ a b:List Int × Int × Int,(a.2=(M,0)∧Cu l N K first M a.1∧∀ o,Cu l N K first M o→LxX a.1 o)→(b.2=(M,0)∧Cu l N K first M b.1∧∀ o,Cu l N K first M o→LxX b.1 o)→a=b:=fun a b ha hb=>by
  have h1:=(ha.2.2 _ hb.2.1).eq (hb.2.2 _ ha.2.1) (by rw [ha.2.1.1.len,hb.2.1.1.len])
  exact Prod.ext h1 (ha.1.trans hb.1.symm)
 refine Yes.lp (fun s=>∃ (k:Nat) (now:List (Gd × Int)),k ≤ K∧s.2.1=some now∧s.2.2.1=((K - k:Nat):Int)∧GIX l gs V N K first M k s.1 now∧Sw (Th l 0) (Th l 1) gs V s.2.2.2) (fun s=>K - s.2.2.1.toNat) ⟨K,[(first,0)],Nat.le_refl _,rfl,by simp,GIX.start hr hV hM,r2⟩ (by simp only; omega) ?_
 rintro ⟨pre,nw,i,mm⟩ kk ⟨k,now,hk,hnw,hi,hG,hm⟩ hkk
 simp only at hnw hi hG hm
 subst hnw; subst hi
 have hlen:=hG.len
 refine Yes.cond (fun hlt2=>?_) (fun hge2=>?_)
 ·have h1 := of_decide_eq_true hlt2
  obtain ⟨k,rfl⟩:∃ k',k=k' + 1:=⟨k - 1,by omega⟩
  have hsz:now.length < 18446744073709551616:=Nat.lt_of_le_of_lt hG.sz (Nat.lt_of_le_of_lt (Nat.pow_le_pow_right (by decide) (show pre.length ≤ 12 by omega)) (by decide))
  obtain ⟨rs,hrs,hne,hall⟩:=s67X hl hN (k:=k) (M:=M) (by omega) hsz (fun e he=>by
   obtain ⟨a1,a2,a3,a4⟩:=hG.v e he
   have hcv:0 ≤ csX l gs (k + 1) e.1:=by
    obtain ⟨le,b1,b2,b3⟩:=a1
    exact (Bf hl hN.pts (k + 1) b1 b2 b3 a2).1
   exact ⟨a1,a2,a3,by unfold Tj at hlt; omega⟩) hm
  refine Yes.jn (Gw now rfl (Gw rs hrs (Yes.callL huniq hne fun a ha=>?_)))
  obtain ⟨hJ,hK'⟩:=hall a ha
  obtain ⟨nx,hnx,hG'⟩:=hG.step hl hN hlt hJ
  refine Yes.bind (Yes.apnd (by simp; omega) (by simp; omega) (hkk (pre ++ [a.1],a.2.1,w64 (((K - (k + 1):Nat):Int) + 1),a.2.2) ⟨k,nx,by omega,hnx,?_,hG',hK'⟩ ?_))
  ·show w64 (((K - (k + 1) : Nat) : Int) + 1) = _
   rw [Ql (by omega) (by omega)]; omega
  ·show K - (w64 (((K - (k + 1) : Nat) : Int) + 1)).toNat < K - (((K - (k + 1) : Nat) : Int)).toNat
   rw [Ql (by omega) (by omega)]; omega
 ·have h1 := of_decide_eq_false hge2
  have hk0:k=0:=by omega
  subst hk0
  obtain ⟨f1,f2⟩:=hG.fin
  exact Yes.some ⟨rfl,f1,f2⟩
end
theorem bits1X:∀ d:Nat,d < 8→∀ i:Nat,i < 3→Sa (d:Int) (i:Int)=some ((d / 2 ^ i:Nat):Int)∧(Qy .and ((d / 2 ^ i:Nat):Int) 1 == (0:Int))=(!d.testBit i)∧Vc 1 (i:Int)=some ((2 ^ i:Nat):Int):=by decide
theorem bits2X:∀ d:Nat,d < 8→∀ i:Nat,i < 3→d.testBit i=false→Qy .or (d:Int) ((2 ^ i:Nat):Int)=((d + 2 ^ i:Nat):Int)∧d + 2 ^ i < 8∧∀ j:Nat,j < 3→(d + 2 ^ i).testBit j=(d.testBit j || decide (j=i)):=by decide
theorem bits3X:∀ n:Nat,n < 4→Vc 1 (n:Int)=some ((2 ^ n:Nat):Int)∧1 ≤ 2 ^ n∧2 ^ n ≤ 8:=by decide
theorem bits4aX:∀ n:Nat,n < 4→∀ d:Nat,d < 8→∀ i:Nat,i < 3→(d < 2 ^ n∧i < n∧d.testBit i=false)→d + 2 ^ i < 2 ^ n:=by decide
theorem bits4bX:∀ n:Nat,n < 4→∀ d:Nat,d < 8→d < 2 ^ n - 1→((List.range 3).any fun i=>decide (i < n) && !d.testBit i)=true:=by decide
theorem Ee (n:Nat) (hn:n < 4) (d:Nat) (hd:d < 8):(d < 2 ^ n→∀ i:Nat,i < 3→i < n→d.testBit i=false→d + 2 ^ i < 2 ^ n)∧(d < 2 ^ n - 1→∃ i:Nat,i < 3∧i < n∧d.testBit i=false):=by
 refine ⟨fun h1 i h2 h3 h4=>bits4aX n hn d hd i h2 ⟨h1,h3,h4⟩,fun h=>?_⟩
 obtain ⟨i,h1,h2⟩:=List.any_eq_true.1 (bits4bX n hn d hd h)
 simp only [Bool.and_eq_true,decide_eq_true_eq,Bool.not_eq_true'] at h2
 exact ⟨i,List.mem_range.1 h1,h2.1,h2.2⟩
def Dw (x:List Int):Nat:=2 ^ x.length - 1
def Ys (gs : List (List Int)) : Nat → Nat → Nat → Nat × Nat
 | 0,g,d=>(g,d)
 | n + 1,g,d=>if g < gs.length∧d=Dw (gs.getD g []) then Ys gs n (g + 1) 0 else (g,d)
theorem Ir {gs:List (List Int)} {g:Nat} (h:g < gs.length):gs.getD g []=gs[g]:=by simp [h]
section
variable {gs:List (List Int)}
theorem s65X (hg:gs.length ≤ 12) (h3:∀ x ∈ gs,x.length ≤ 3) (r:Tf) {g d:Nat} (hgl:g ≤ gs.length) (hd:d < 8):f43 ⟨(g:Int),(d:Int),r⟩ gs=some ⟨((Ys gs (gs.length - g) g d).1:Int),((Ys gs (gs.length - g) g d).2:Int),r⟩:=by
 refine Yes.eq ?_
 unfold f43
 refine Yes.bind (Yes.mono (Q':=fun p=>p=⟨((Ys gs (gs.length - g) g d).1:Int),((Ys gs (gs.length - g) g d).2:Int),r⟩) ?_ fun p hp=>Yes.some hp)
 refine Yes.lp (fun s=>∃ g1 d1:Nat,s=⟨(g1:Int),(d1:Int),r⟩∧g1 ≤ gs.length∧d1 < 8∧Ys gs (gs.length - g1) g1 d1=Ys gs (gs.length - g) g d) (fun s=>gs.length - s.group.toNat) ⟨g,d,rfl,hgl,hd,rfl⟩ (by simp only; omega) ?_
 rintro s kk ⟨g1,d1,rfl,a1,a2,a3⟩ hk
 refine Yes.jn ?_
 by_cases h1:g1 < gs.length
 ·have hx := Ir h1
  obtain ⟨b1,b2,b3⟩:=bits3X gs[g1].length (by have:=h3 _ (List.getElem_mem h1); omega)
  obtain ⟨n,hn⟩:∃ n,gs.length - g1=n + 1:=⟨gs.length - g1 - 1,by omega⟩
  rw [hn,Ys] at a3
  have hchk:(bif decide ((g1:Int) < (gs.length:Int)) then (idx gs (g1:Int)).bind fun y9=>(Vc (1:Int) (y9.length:Int)).bind fun m8=>some ((d1:Int) == w64 (m8 - 1)) else some false)=some (decide (d1=Dw (gs.getD g1 []))):=by
   rw [decide_eq_true (by omega),cond_true,Xk h1,Option.bind_some,b1,Option.bind_some,Ql (by omega) (by omega),hx]
   congr 1
   unfold Dw
   by_cases h:d1=2 ^ gs[g1].length - 1
   ·rw [decide_eq_true h,beq_iff_eq]; omega
   ·rw [decide_eq_false h,beq_eq_false_iff_ne]; omega
  by_cases hf:d1=Dw (gs.getD g1 [])
  ·rw [if_pos ⟨h1, hf⟩] at a3
   rw [decide_eq_true hf] at hchk
   refine Gw true hchk (Ww rfl (hk _ ⟨g1 + 1,0,?_,h1,by omega,?_⟩ ?_))
   ·show (⟨w64 ((g1 : Int) + 1), 0, r⟩ : Gd) = _
    rw [Ql (by omega) (by omega)]; simp
   ·rw [← a3,show gs.length - (g1 + 1)=n by omega]
   ·show gs.length - (w64 ((g1 : Int) + 1)).toNat < gs.length - ((g1 : Int)).toNat
    rw [Ql (by omega) (by omega)]; omega
  ·rw [if_neg fun h => hf h.2] at a3
   rw [decide_eq_false hf] at hchk
   exact Gw false hchk (Wr rfl (Yes.some (by rw [← a3])))
 ·have e : gs.length - g1 = 0 := by omega
  rw [e,Ys] at a3
  exact Gw false (by rw [decide_eq_false (show ¬ (g1:Int) < (gs.length:Int) by omega)]; rfl) (Wr rfl (Yes.some (by rw [← a3])))
end
section
variable {gs:List (List Int)}
def Dt (x:List Int) (d:Nat) (c:Int):Option Nat:=(List.range x.length).find? fun i=>decide (x.getD i 0=c) && !d.testBit i
end
section
variable {gs:List (List Int)}
theorem fi_someX {x:List Int} {d:Nat} {c:Int} {i:Nat}:Dt x d c=some i ↔ (x.getD i 0=c∧d.testBit i=false)∧i < x.length∧∀ j,j < i→¬ (x.getD j 0=c∧d.testBit j=false):=by
 unfold Dt
 rw [List.find?_range_eq_some]
 simp
 intro _ _ _
 constructor <;> intro h j hj <;> have:=h j hj <;> by_cases e:x[j]?.getD 0=c <;> simp_all
end
section
variable {gs:List (List Int)}
theorem fi_noneX {x:List Int} {d:Nat} {c:Int}:Dt x d c=none ↔ ∀ j,j < x.length→¬ (x.getD j 0=c∧d.testBit j=false):=by
 unfold Dt
 rw [List.find?_range_eq_none]
 refine forall_congr' fun j=>forall_congr' fun hj=>?_
 by_cases e:x.getD j 0=c
 ·rw [decide_eq_true e]
  cases hb:d.testBit j with
  | false=>exact ⟨fun h=>by simp at h,fun h=>absurd ⟨e,rfl⟩ h⟩
  | true=>exact ⟨fun _ h=>absurd h.2 (by simp),fun _=>rfl⟩
 ·rw [decide_eq_false e]
  exact ⟨fun _ h=>e h.1,fun _=>rfl⟩
end
section
variable {gs:List (List Int)}
theorem s88X (hg : gs.length ≤ 12) (h3 : ∀ x ∈ gs, x.length ≤ 3) (r : Tf) {g d : Nat} (hgl : g < gs.length) (hd : d < 8) (s : Tg) :
  f85 ⟨(g:Int),(d:Int),r⟩ gs s=some (match Dt (gs.getD g []) d s.colour with | some i=>(⟨((Ys gs (gs.length - g) g (d + 2 ^ i)).1:Int),((Ys gs (gs.length - g) g (d + 2 ^ i)).2:Int),s.next⟩,true) | none=>(⟨(g:Int),(d:Int),r⟩,false)):=by
 have hx:=Ir hgl
 have hx3:=h3 _ (List.getElem_mem hgl)
 refine Yes.eq ?_
 unfold f85
 refine Yes.jn (Gw _ (Xk hgl) ?_)
 refine Yes.lp (fun t=>t.1=⟨(g:Int),(d:Int),r⟩∧∃ i:Nat,t.2.2=i∧i ≤ gs[g].length∧∀ j,j < i→¬ (gs[g].getD j 0=s.colour∧d.testBit j=false)) (fun t=>gs[g].length - t.2.2.toNat) ⟨rfl,0,rfl,Nat.zero_le _,fun j hj=>absurd hj (Nat.not_lt_zero _)⟩ (by simp only; omega) ?_
 rintro ⟨p,q,u⟩ kk ⟨rfl,i,hu,hi,hno⟩ hk
 simp only at hu
 subst hu
 by_cases h1:i < gs[g].length
 ·obtain ⟨c1, c2, c3⟩ := bits1X d hd i (by omega)
  have hgi:gs[g].getD i 0=gs[g][i]:=by simp [h1]
  refine Ww (decide_eq_true (by omega)) (Yes.jn (Gw _ (Xk h1) ?_))
  have hchk:(bif gs[g][i] == s.colour then (Sa (d:Int) (i:Int)).bind fun y180=>some (Qy .and y180 (1:Int) == (0:Int)) else some false)=some (decide (gs[g].getD i 0=s.colour∧d.testBit i=false)):=by
   rw [hgi]
   by_cases h:gs[g][i]=s.colour
   ·rw [show (gs[g][i] == s.colour) = true from beq_iff_eq.2 h, cond_true, c1, Option.bind_some, c2]
    cases d.testBit i <;> simp [h]
   ·rw [show (gs[g][i] == s.colour) = false from beq_eq_false_iff_ne.2 h, cond_false]
    simp [h]
  by_cases hm:gs[g].getD i 0=s.colour∧d.testBit i=false
  ·obtain ⟨e1, e2, e3⟩ := bits2X d hd i (by omega) hm.2
   have hfi:Dt (gs.getD g []) d s.colour=some i:=by rw [hx,fi_someX]; exact ⟨hm,h1,hno⟩
   rw [decide_eq_true hm] at hchk
   refine Gw true hchk (Ww rfl (Gw _ c3 ?_))
   dsimp only
   rw [e1,hfi]
   exact Gw _ (s65X hg h3 s.next (by omega) e2) (Yes.some rfl)
  ·rw [decide_eq_false hm] at hchk
   refine Gw false hchk (Wr rfl (hk _ ⟨rfl,i + 1,?_,h1,fun j hj=>?_⟩ ?_))
   ·show w64 ((i : Int) + 1) = _
    rw [Ql (by omega) (by omega)]; simp
   ·by_cases hj' : j = i
    ·rw [hj']; exact hm
    ·exact hno j (by omega)
   ·show gs[g].length - (w64 ((i : Int) + 1)).toNat < gs[g].length - ((i : Int)).toNat
    rw [Ql (by omega) (by omega)]; omega
 ·have hfi : Dt (gs.getD g []) d s.colour = none := by rw [hx, fi_noneX]; exact fun j hj => hno j (by omega)
  rw [hfi]
  exact Wr (decide_eq_false (by omega)) (Yes.some rfl)
end
section
variable {gs:List (List Int)}
def Cc (x:List Int) (d:Nat):List Int:=((List.range x.length).filter fun i=>!d.testBit i).map fun i=>x.getD i 0
end
section
variable {gs:List (List Int)}
theorem Vk (x:List Int):Cc x 0=x:=by
 unfold Cc
 rw [List.filter_eq_self.2 (by simp)]
 refine List.ext_getElem (by simp) fun i h1 h2=>?_
 simp [h2]
end
section
variable {gs:List (List Int)}
theorem und_fulX (x:List Int):Cc x (Dw x)=[]:=by
 unfold Cc Dw
 rw [List.filter_eq_nil_iff.2 fun i hi=>by simp [Nat.testBit_two_pow_sub_one,List.mem_range.1 hi]]; rfl
end
section
variable {gs:List (List Int)}
theorem Fu {p : Nat → Bool} {i : Nat} (hp : p i = true) : ∀ {xs : List Nat}, xs.Nodup → i ∈ xs → (xs.filter p).Perm (i :: xs.filter fun j => p j && !decide (j = i))
 | [],_,h=>by cases h
 | x :: xs,hn,h=>by
  rw [List.nodup_cons] at hn
  by_cases hx:x=i
  ·subst hx
   rw [List.filter_cons_of_pos hp,List.filter_cons_of_neg (by simp)]
   refine List.Perm.cons _ (List.Perm.of_eq (List.filter_congr fun j hj=>?_))
   have:j ≠ x:=fun e=>hn.1 (e ▸ hj)
   simp [this]
  ·have hi : i ∈ xs := by rcases List.mem_cons.1 h with h | h; exact absurd h.symm hx; exact h
   have ih:=Fu hp hn.2 hi
   cases hpx:p x with
   | true=>
    rw [List.filter_cons_of_pos hpx,List.filter_cons_of_pos (by simp [hpx,hx])]
    exact (ih.cons x).trans (List.Perm.swap _ _ _)
   | false=>
    rw [List.filter_cons_of_neg (by simp [hpx]),List.filter_cons_of_neg (by simp [hpx])]
    exact ih
end
section
variable {gs:List (List Int)}
theorem Ct {x:List Int} (h3:x.length ≤ 3) {d i:Nat} (hd:d < 8) (hi:i < x.length) (hb:d.testBit i=false):(Cc x d).Perm (x.getD i 0 :: Cc x (d + 2 ^ i)):=by
 unfold Cc
 have h:=Fu (p:=fun j=>!d.testBit j) (i:=i) (by simp [hb]) List.nodup_range (List.mem_range.2 hi)
 refine (h.map fun i=>x.getD i 0).trans ?_
 rw [List.map_cons]
 refine List.Perm.cons _ (List.Perm.of_eq ?_)
 congr 1
 refine List.filter_congr fun j hj=>?_
 have:=(bits2X d hd i (by omega) hb).2.2 j (by have:=List.mem_range.1 hj; omega)
 rw [this]
 cases d.testBit j <;> simp
end
section
variable {gs:List (List Int)}
def Yj : List (List Int) → List Int → Prop
 | [],o=>o=[]
 | x :: xs,o=>∃ p q,o=p ++ q∧p.Perm x∧Yj xs q
end
section
variable {gs:List (List Int)}
theorem Yj.nil_cons {xs:List (List Int)} {o:List Int}:Yj ([] :: xs) o ↔ Yj xs o:=by
 constructor
 ·rintro ⟨p, q, rfl, hp, hq⟩
  rw [List.Perm.eq_nil hp]; exact hq
 ·intro h; exact ⟨[],o,rfl,List.Perm.refl _,h⟩
end
section
variable {gs:List (List Int)}
theorem Yj.cons {x:List Int} (hx:x ≠ []) {xs:List (List Int)} {o:List Int}:Yj (x :: xs) o ↔ ∃ c o',o=c :: o'∧c ∈ x∧∀ x',x.Perm (c :: x')→Yj (x' :: xs) o':=by
 constructor
 ·rintro ⟨p, q, rfl, hp, hq⟩
  cases p with
  | nil=>exact absurd (List.Perm.eq_nil hp.symm) hx
  | cons c p=>
   refine ⟨c,p ++ q,rfl,hp.mem_iff.1 (by simp),fun x' hx'=>⟨p,q,rfl,(hp.trans hx').cons_inv,hq⟩⟩
 ·rintro ⟨c, o', rfl, hc, h⟩
  obtain ⟨a,b,rfl⟩:=List.append_of_mem hc
  obtain ⟨p,q,rfl,hp,hq⟩:=h (a ++ b) List.perm_middle
  exact ⟨c :: p,q,rfl,(hp.cons c).trans List.perm_middle.symm,hq⟩
end
section
variable {gs:List (List Int)}
def Hc (gs:List (List Int)) (g d:Nat):List (List Int):=Cc (gs.getD g []) d :: gs.drop (g + 1)
end
section
variable {gs:List (List Int)}
def VdGX (gs:List (List Int)) (g d:Nat):Prop:=(g=gs.length∧d=0) ∨ (g < gs.length∧d < Dw (gs.getD g []))
end
section
variable {gs:List (List Int)}
def VGX (gs:List (List Int)) (pt:Gd) (k:Nat):Prop:=∃ g d:Nat,pt.group=(g:Int)∧pt.done=(d:Int)∧k=(Hc gs g d).flatten.length∧VdGX gs g d
end
section
variable {gs:List (List Int)}
noncomputable def NGX (gs:List (List Int)) (g d c:Int):Option (Int × Int):=(Dt (gs.getD g.toNat []) d.toNat c).map fun i=>(((Ys gs (gs.length - g.toNat) g.toNat (d.toNat + 2 ^ i)).1:Int),((Ys gs (gs.length - g.toNat) g.toNat (d.toNat + 2 ^ i)).2:Int))
end
section
variable {gs:List (List Int)}
theorem Lx : ∀ (n : Nat) {g d : Nat}, n = gs.length - g → g ≤ gs.length → (g = gs.length → d = 0) → (g < gs.length → d ≤ Dw (gs.getD g [])) →
  VdGX gs (Ys gs n g d).1 (Ys gs n g d).2∧(Hc gs (Ys gs n g d).1 (Ys gs n g d).2).flatten.length=(Hc gs g d).flatten.length∧∀ o,Yj (Hc gs (Ys gs n g d).1 (Ys gs n g d).2) o ↔ Yj (Hc gs g d) o
 | 0,g,d,hn,h1,h2,_=>by
  rw [Ys]
  exact ⟨.inl ⟨by simp only; omega,h2 (by omega)⟩,rfl,fun _=>Iff.rfl⟩
 | n + 1,g,d,hn,h1,h2,h3=>by
  have hlt:g < gs.length:=by omega
  rw [Ys]
  by_cases hf:g < gs.length∧d=Dw (gs.getD g [])
  ·rw [if_pos hf]
   obtain ⟨i1,i2,i3⟩:=Lx n (g:=g + 1) (d:=0) (by omega) (by omega) (fun _=>rfl) (fun _=>Nat.zero_le _)
   have hr:Hc gs g d=[] :: gs.drop (g + 1):=by unfold Hc; rw [hf.2,und_fulX]
   have hr2:(Hc gs (g + 1) 0).flatten.length=(gs.drop (g + 1)).flatten.length∧∀ o,Yj (Hc gs (g + 1) 0) o ↔ Yj (gs.drop (g + 1)) o:=by
    unfold Hc
    rw [Vk]
    by_cases h:g + 1 < gs.length
    ·rw [Ir h,← List.drop_eq_getElem_cons h]; exact ⟨rfl,fun _=>Iff.rfl⟩
    ·have e1 : gs.getD (g + 1) [] = [] := by simp; rw [List.getElem?_eq_none (by omega)]; rfl
     rw [e1,List.drop_eq_nil_of_le (by omega),List.drop_eq_nil_of_le (by omega)]
     exact ⟨rfl,fun o=>Yj.nil_cons⟩
   refine ⟨i1,?_,fun o=>?_⟩
   ·rw [i2,hr2.1,hr]; simp
   ·rw [i3,hr2.2,hr,Yj.nil_cons]
  ·rw [if_neg hf]
   refine ⟨.inr ⟨hlt,?_⟩,rfl,fun _=>Iff.rfl⟩
   have:=h3 hlt
   have:d ≠ Dw (gs.getD g []):=fun h=>hf ⟨hlt,h⟩
   simp only; omega
end
section
variable {gs:List (List Int)}
theorem Rz (h3:∀ x ∈ gs,x.length ≤ 3) {g:Nat} (hg:g < gs.length):(gs.getD g []).length ≤ 3∧Dw (gs.getD g []) < 8∧Dw (gs.getD g []) + 1=2 ^ (gs.getD g []).length:=by
 rw [Ir hg]
 have h:=h3 _ (List.getElem_mem hg)
 have:=bits3X gs[g].length (by omega)
 unfold Dw; omega
end
section
variable {gs:List (List Int)}
theorem Lq (h3 : ∀ x ∈ gs, x.length ≤ 3) {g d : Nat} (hg : g < gs.length) (hd : d < Dw (gs.getD g [])) {c : Int} {i : Nat} (hi : Dt (gs.getD g []) d c = some i) :
  (Cc (gs.getD g []) d).Perm (c :: Cc (gs.getD g []) (d + 2 ^ i))∧d + 2 ^ i ≤ Dw (gs.getD g []):=by
 obtain ⟨f1,f2,f3⟩:=Rz h3 hg
 obtain ⟨⟨h1,h2⟩,h4,_⟩:=fi_someX.1 hi
 have hs:=Ct f1 (d:=d) (by omega) h4 h2
 rw [h1] at hs
 have:=(Ee (gs.getD g []).length (by omega) d (by omega)).1 (by omega) i (by omega) h4 h2
 exact ⟨hs,by omega⟩
end
section
variable {gs:List (List Int)}
theorem nx_grpX (hg:gs.length ≤ 12) (h3:∀ x ∈ gs,x.length ≤ 3):NxX gs (VGX gs) (NGX gs):=by
 have hne:∀ {g d:Nat},g < gs.length→d < Dw (gs.getD g [])→Cc (gs.getD g []) d ≠ []:=fun {g d} h1 h2=>by
  obtain ⟨f1,f2,f3⟩:=Rz h3 h1
  obtain ⟨i,i1,i2,i3⟩:=(Ee (gs.getD g []).length (by omega) d (by omega)).2 (by omega)
  intro h
  have hs:=Ct f1 (d:=d) (by omega) i2 i3
  rw [h] at hs
  exact absurd (List.Perm.eq_nil hs.symm) (by simp)
 have step:∀ {pt:Gd} {k:Nat} {s:Tg},VGX gs pt (k + 1)→∃ g d:Nat,pt.group=(g:Int)∧pt.done=(d:Int)∧g < gs.length∧d < 8∧d < Dw (gs.getD g [])∧(Hc gs g d).flatten.length=k + 1:=by
  rintro pt k s ⟨g,d,h1,h2,h4,h5⟩
  rcases h5 with ⟨rfl,rfl⟩ | ⟨h5,h6⟩
  ·exfalso
   have:Hc gs gs.length 0=[[]]:=by
    unfold Hc; rw [Vk,List.drop_eq_nil_of_le (by omega)]
    have e1:gs.getD gs.length []=[]:=by simp
    rw [e1]
   rw [this] at h4; simp at h4
  ·exact ⟨g,d,h1,h2,h5,by have:=(Rz h3 h5).2.1; omega,h6,h4.symm⟩
 have to:∀ {pt:Gd} {k g d i:Nat} {c:Int} (r:Tf),g < gs.length→d < Dw (gs.getD g [])→(Hc gs g d).flatten.length=k + 1→Dt (gs.getD g []) d c=some i→VGX gs ⟨((Ys gs (gs.length - g) g (d + 2 ^ i)).1:Int),((Ys gs (gs.length - g) g (d + 2 ^ i)).2:Int),r⟩ k:=by
  intro pt k g d i c r h1 h2 h4 h5
  obtain ⟨p1,p2⟩:=Lq h3 h1 h2 h5
  obtain ⟨q1,q2,_⟩:=Lx (gs:=gs) (gs.length - g) (g:=g) (d:=d + 2 ^ i) rfl (by omega) (fun h=>by omega) (fun _=>p2)
  refine ⟨_,_,rfl,rfl,?_,q1⟩
  rw [q2]
  have:=p1.length_eq
  unfold Hc at h4 ⊢
  rw [List.flatten_cons,List.length_append] at h4 ⊢
  rw [List.length_cons] at this
  omega
 have e88:∀ {pt:Gd} {g d:Nat} (s:Tg),pt.group=(g:Int)→pt.done=(d:Int)→g < gs.length→d < 8→f85 pt gs s=some (match Dt (gs.getD g []) d s.colour with | some i=>(⟨((Ys gs (gs.length - g) g (d + 2 ^ i)).1:Int),((Ys gs (gs.length - g) g (d + 2 ^ i)).2:Int),s.next⟩,true) | none=>(pt,false)):=by
  intro pt g d s h1 h2 h4 h5
  obtain ⟨pg,pd,pr⟩:=pt
  simp only at h1 h2
  subst h1; subst h2
  exact s88X hg h3 pr h4 h5 s
 refine ⟨⟨?_,?_,?_⟩,?_,?_⟩
 ·rintro pt k ⟨g, d, h1, h2, h4, h5⟩
  rw [h1]
  rcases h5 with ⟨rfl,rfl⟩ | ⟨h5,h6⟩
  ·have:Hc gs gs.length 0=[[]]:=by
    unfold Hc; rw [Vk,List.drop_eq_nil_of_le (by omega)]
    have e1:gs.getD gs.length []=[]:=by simp
    rw [e1]
   rw [this] at h4
   exact ⟨fun _=>by simpa using h4,fun _=>rfl⟩
  ·constructor
   ·intro h; omega
   ·intro h
    subst h
    have:=hne h5 h6
    unfold Hc at h4
    rw [List.flatten_cons,List.length_append] at h4
    exact absurd (List.length_eq_zero_iff.1 (by omega)) this
 ·rintro pt k k' ⟨g, d, h1, h2, h4, _⟩ ⟨g', d', h1', h2', h4', _⟩
  have e1:g=g':=by omega
  have e2:d=d':=by omega
  rw [h4,h4',e1,e2]
 ·intro pt k s hv
  obtain ⟨g,d,h1,h2,h4,h5,h6,h7⟩:=step (s:=s) hv
  have e:=e88 s h1 h2 h4 h5
  cases hf:Dt (gs.getD g []) d s.colour with
  | none=>rw [hf] at e; exact ⟨_,_,e,fun h=>by cases h⟩
  | some i=>rw [hf] at e; exact ⟨_,_,e,fun _=>⟨rfl,to (pt:=pt) _ h4 h6 h7 hf⟩⟩
 ·intro pt k s g' d' hv hn
  obtain ⟨g,d,h1,h2,h4,h5,h6,h7⟩:=step (s:=s) hv
  have e:=e88 s h1 h2 h4 h5
  unfold NGX at hn
  rw [h1,h2] at hn
  simp only [Int.toNat_natCast] at hn
  cases hf:Dt (gs.getD g []) d s.colour with
  | none=>rw [hf] at hn; cases hn
  | some i=>rw [hf] at hn e; cases hn; exact e
 ·intro pt k s hv hn
  obtain ⟨g,d,h1,h2,h4,h5,h6,h7⟩:=step (s:=s) hv
  have e:=e88 s h1 h2 h4 h5
  unfold NGX at hn
  rw [h1,h2] at hn
  simp only [Int.toNat_natCast] at hn
  cases hf:Dt (gs.getD g []) d s.colour with
  | none=>rw [hf] at e; exact ⟨_,e⟩
  | some i=>rw [hf] at hn; cases hn
end
section
variable {gs:List (List Int)}
theorem ord_osX (h3 : ∀ x ∈ gs, x.length ≤ 3) : ∀ (k : Nat) {g d : Nat} {o : List Int}, VdGX gs g d → (Hc gs g d).flatten.length = k → (Dj (NGX gs) k (g : Int) (d : Int) o ↔ Yj (Hc gs g d) o)
 | 0,g,d,o,hv,hk=>by
  rcases hv with ⟨rfl,rfl⟩ | ⟨h5,h6⟩
  ·have:Hc gs gs.length 0=[[]]:=by
    unfold Hc; rw [Vk,List.drop_eq_nil_of_le (by omega)]
    have e1:gs.getD gs.length []=[]:=by simp
    rw [e1]
   rw [this,Yj.nil_cons]; exact Iff.rfl
  ·exfalso
   obtain ⟨f1,f2,f3⟩:=Rz h3 h5
   obtain ⟨i,i1,i2,i3⟩:=(Ee (gs.getD g []).length (by omega) d (by omega)).2 (by omega)
   have hs:=(Ct f1 (d:=d) (by omega) i2 i3).length_eq
   unfold Hc at hk
   rw [List.flatten_cons,List.length_append] at hk
   rw [List.length_cons] at hs
   omega
 | k + 1,g,d,o,hv,hk=>by
  rcases hv with ⟨rfl,rfl⟩ | ⟨h5,h6⟩
  ·exfalso
   have:Hc gs gs.length 0=[[]]:=by
    unfold Hc; rw [Vk,List.drop_eq_nil_of_le (by omega)]
    have e1:gs.getD gs.length []=[]:=by simp
    rw [e1]
   rw [this] at hk; simp at hk
  ·obtain ⟨f1, f2, f3⟩ := Rz h3 h5
   have hne:Cc (gs.getD g []) d ≠ []:=by
    obtain ⟨i,i1,i2,i3⟩:=(Ee (gs.getD g []).length (by omega) d (by omega)).2 (by omega)
    intro h
    have hs:=Ct f1 (d:=d) (by omega) i2 i3
    rw [h] at hs
    exact absurd (List.Perm.eq_nil hs.symm) (by simp)
   -- one colour further
   have key:∀ {c:Int} {i:Nat} {o':List Int},Dt (gs.getD g []) d c=some i→(Dj (NGX gs) k ((Ys gs (gs.length - g) g (d + 2 ^ i)).1:Int) ((Ys gs (gs.length - g) g (d + 2 ^ i)).2:Int) o' ↔ Yj (Cc (gs.getD g []) (d + 2 ^ i) :: gs.drop (g + 1)) o'):=fun {c i o'} hf=>by
    obtain ⟨p1,p2⟩:=Lq h3 h5 h6 hf
    obtain ⟨q1,q2,q3⟩:=Lx (gs:=gs) (gs.length - g) (g:=g) (d:=d + 2 ^ i) rfl (by omega) (fun h=>by omega) (fun _=>p2)
    have hl:(Hc gs g (d + 2 ^ i)).flatten.length=k:=by
     have:=p1.length_eq
     unfold Hc at hk ⊢
     rw [List.flatten_cons,List.length_append] at hk ⊢
     rw [List.length_cons] at this
     omega
    rw [ord_osX h3 k q1 (q2.trans hl),q3]; rfl
   have hN:∀ c,NGX gs (g:Int) (d:Int) c=(Dt (gs.getD g []) d c).map fun i=>(((Ys gs (gs.length - g) g (d + 2 ^ i)).1:Int),((Ys gs (gs.length - g) g (d + 2 ^ i)).2:Int)):=fun c=>by
    unfold NGX; simp only [Int.toNat_natCast]
   unfold Hc
   rw [Yj.cons hne]
   constructor
   ·rintro ⟨c, o', g', d', rfl, hn, ho⟩
    rw [hN] at hn
    cases hf:Dt (gs.getD g []) d c with
    | none=>rw [hf] at hn; cases hn
    | some i=>
     rw [hf] at hn; cases hn
     obtain ⟨p1,_⟩:=Lq h3 h5 h6 hf
     refine ⟨c,o',rfl,p1.mem_iff.2 (by simp),fun x' hx'=>?_⟩
     obtain ⟨p,q,rfl,hp,hq⟩:=(key hf).1 ho
     exact ⟨p,q,rfl,hp.trans (p1.symm.trans hx').cons_inv,hq⟩
   ·rintro ⟨c, o', rfl, hc, h⟩
    cases hf:Dt (gs.getD g []) d c with
    | none=>
     exfalso
     unfold Cc at hc
     obtain ⟨j,hj,hjc⟩:=List.mem_map.1 hc
     obtain ⟨hj1,hj2⟩:=List.mem_filter.1 hj
     exact fi_noneX.1 hf j (List.mem_range.1 hj1) ⟨hjc,by simpa using hj2⟩
    | some i=>
     obtain ⟨p1,_⟩:=Lq h3 h5 h6 hf
     exact ⟨c,o',_,_,rfl,by rw [hN,hf]; rfl,(key hf).2 (h _ p1)⟩
end
section
variable {gs:List (List Int)}
theorem cR_cLX {l : BoxLoom} : ∀ (csX : List Int) {l' : BoxLoom}, Kd l' → l'.Boxes = l.Boxes → cRX (Th l 0) (Th l 1) csX (rcX l') = cLX csX l'
 | [],_,_,_=>by rw [cRX,cLX]
 | c :: csX,l',hl',hB=>by
  rw [cRX,cLX,← Ws hB,← Ws hB,Sp hl']
  unfold Jz
  rw [List.foldl_filterMap]
  refine Rf _ _ fun p hp b=>?_
  unfold Bc Jh
  cases ho:Hs l' p with
  | none=>rfl
  | some x=>
   obtain ⟨h4,h5,_⟩:=Db hl' ((Vj hl').1 hp) (show Hs l' p=some (x.1,x.2.1,x.2.2) from ho)
   simp only [Option.map_some]
   unfold Mq Ex
   by_cases hc:Qu l' x.2.1=c
   ·simp only [if_pos hc]
    rw [Ws hB,Ws hB,cR_cLX csX h4 (h5.trans hB)]
   ·simp only [if_neg hc]
end
theorem Yj.len : ∀ {gs : List (List Int)} {o : List Int}, Yj gs o → o.length = gs.flatten.length
 | [],_,h=>by rw [show _=[] from h]; rfl
 | x :: xs,_,⟨p,q,h,hp,hq⟩=>by rw [h,List.length_append,hp.length_eq,Yj.len hq,List.flatten_cons,List.length_append]
theorem rest_zeroX (gs:List (List Int)):(Hc gs 0 0).flatten.length=gs.flatten.length∧∀ o,Yj (Hc gs 0 0) o ↔ Yj gs o:=by
 unfold Hc
 rw [Vk]
 cases gs with
 | nil=>exact ⟨rfl,fun o=>Yj.nil_cons⟩
 | cons x xs=>exact ⟨rfl,fun o=>Iff.rfl⟩
section
variable {l:BoxLoom} {gs:List (List Int)}
structure BestX (l : BoxLoom) (gs : List (List Int)) (o : List Int) (M : Int) : Prop where
 os:Yj gs o
 mvX:cLX o l=M
 lt:M < Tj
 le:∀ o',Yj gs o'→M ≤ cLX o' l
 lx:∀ o',Yj gs o'→cLX o' l=M→LxX o o'
end
section
variable {l:BoxLoom} {gs:List (List Int)}
theorem BestX.one {o o':List Int} {M M':Int} (h:BestX l gs o M) (k:BestX l gs o' M'):o=o'∧M=M':=by
 have e:M=M':=by
  have h1:=h.le _ k.os; have h2:=k.le _ h.os; have h3:=h.mvX; have h4:=k.mvX; omega
 subst e
 exact ⟨(h.lx _ k.os k.mvX).eq (k.lx _ h.os h.mvX) (by rw [h.os.len,k.os.len]),rfl⟩
end
section
variable {l:BoxLoom} {gs:List (List Int)}
theorem grpX (hl : Kd l) (hg : gs.length ≤ 8) (h3 : ∀ g ∈ gs, g.length ≤ 3) (hc : ∀ g ∈ gs, g.all (Vt 0 9) = true) (h12 : gs.flatten.length ≤ 12) :
  Yes (f11 l gs) fun r=>((∀ o,Yj gs o→Tj ≤ cLX o l)∧r=([],0,9)) ∨ ∃ o M,r=(o,M,0)∧BestX l gs o M:=by
 obtain ⟨q1,q2,q3⟩:=Lx (gs:=gs) (gs.length - 0) (g:=0) (d:=0) rfl (by omega) (fun _=>rfl) (fun _=>Nat.zero_le _)
 obtain ⟨z1,z2⟩:=rest_zeroX gs
 have hf:=s65X (gs:=gs) (by omega) h3 (rcX l) (g:=0) (d:=0) (by omega) (by omega)
 generalize hs:Ys gs (gs.length - 0) 0 0=st at q1 q2 q3 hf
 have hV:VGX gs ⟨(st.1:Int),(st.2:Int),rcX l⟩ gs.flatten.length:=⟨_,_,rfl,rfl,by rw [q2,z1],q1⟩
 have hN:=nx_grpX (gs:=gs) (by omega) h3
 have hO:∀ o,Dj (NGX gs) gs.flatten.length (st.1:Int) (st.2:Int) o ↔ Yj gs o:=fun o=>by
  rw [ord_osX h3 gs.flatten.length q1 (by rw [q2,z1]),q3,z2]
 have hR:∀ o,cRX (Th l 0) (Th l 1) o (rcX l)=cLX o l:=fun o=>cR_cLX o hl rfl
 have hle:∀ o,Yj gs o→csX l gs gs.flatten.length ⟨(st.1:Int),(st.2:Int),rcX l⟩ ≤ cLX o l:=fun o ho=>by
  have h1:=Dl (l:=l) hN (pt:=⟨(st.1:Int),(st.2:Int),rcX l⟩) ⟨l,hl,rfl,rfl⟩ hV ((hO o).2 ho)
  rw [show (⟨(st.1:Int),(st.2:Int),rcX l⟩:Gd).race=rcX l from rfl,hR] at h1; exact h1
 refine (s25X hl hg h3 hc hN hf rfl hV h12 rfl).mono fun r hr=>?_
 by_cases hlt:csX l gs gs.flatten.length ⟨(st.1:Int),(st.2:Int),rcX l⟩ < Tj
 ·obtain ⟨a1, a2, a3⟩ := hr.2 hlt
  refine .inr ⟨r.1,_,Prod.ext rfl a1,(hO _).1 a2.1,?_,hlt,hle,fun o' ho' hm=>a3 o' ⟨(hO _).2 ho',?_⟩⟩
  ·rw [← hR]; exact a2.2
  ·show cRX (Th l 0) (Th l 1) o' (rcX l) = _
   rw [hR]; exact hm
 ·exact .inl ⟨fun o ho=>by have:=hle o ho; omega,hr.1 (by omega)⟩
end
section
variable {l:BoxLoom} {gs:List (List Int)}
theorem cut_takeX {α:Type} {xs:List α} {i:Nat} (h:i ≤ xs.length):cut xs 0 (i:Int)=some (xs.take i):=by
 unfold cut; rw [if_pos ⟨by omega,by omega,by omega⟩]; simp
end
section
variable {l:BoxLoom} {gs:List (List Int)}
theorem cut_dropX {α:Type} {xs:List α} {i:Nat} (h:i ≤ xs.length):cut xs (i:Int) (xs.length:Int)=some (xs.drop i):=by
 unfold cut; rw [if_pos ⟨by omega,by omega,by omega⟩]; simp
end
end Go.Proofs.YtlmibfohllgmeaaGreat
