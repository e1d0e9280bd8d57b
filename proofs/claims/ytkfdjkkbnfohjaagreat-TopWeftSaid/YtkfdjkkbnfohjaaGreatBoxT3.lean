/- Laws of plain functions, part 3. -/
import Derived.Test.YtkfdjkkbnfohjaaGreatBoxT2
set_option maxRecDepth 8000
namespace Go.Proofs.YtkfdjkkbnfohjaaGreat
open Go.RowKit
open Classical
theorem mgetm {κ ν : Type} [DecidableEq κ] (k : κ) (v : ν) (k' : κ) : ∀ m : List (κ × ν), mget (mset m k v) k' = if k' = k then some v else mget m k'
 | []=>by
  unfold mset mget
  by_cases h:k'=k
  ·subst h; simp
  ·have : ¬ k = k' := fun e => h e.symm
   simp [h,this]
 | p :: m=>by
  have ih:=mgetm k v k' m
  unfold mset
  by_cases hp:p.1=k
  ·rw [if_pos hp]
   by_cases h:k'=k
   ·subst h; unfold mget; simp
   ·have h1 : ¬ k = k' := fun e => h e.symm
    have h2:¬ p.1=k':=fun e=>h (e ▸ hp ▸ rfl)
    rw [if_neg h]; unfold mget; simp [h1,h2]
  ·rw [if_neg hp]
   by_cases h2:p.1=k'
   ·have h : ¬ k' = k := fun e => hp (h2.trans e)
    rw [if_neg h]; unfold mget; simp [h2]
   ·unfold mget at ih ⊢
    rw [List.find?_cons_of_neg (by simp [h2]),List.find?_cons_of_neg (by simp [h2])]
    exact ih
theorem stL_mem {l:BoxLoom} (hl:LOk l) {x:BoxPick × BoxStep} (h:x ∈ stL l):∃ n i,oneL l x.1=some (n,i,x.2.moves)∧okP l.Boxes x.1=true∧LOk n∧n.Boxes=l.Boxes∧x.2.next=rc n∧x.2.colour=colr l i∧0 ≤ x.2.moves∧x.2.moves ≤ 6:=by
 unfold stL at h
 obtain ⟨p,hp,he⟩:=List.mem_filterMap.1 h
 have hok:=(mem_allP hl).1 hp
 unfold stp at he
 cases ho:oneL l p with
 | none=>rw [ho] at he; cases he
 | some y=>
  obtain ⟨n,i,m⟩:=y
  rw [ho] at he
  cases he
  obtain ⟨h1,h2,_,_,h5,h6⟩:=oneL_ok hl hok ho
  exact ⟨n,i,ho,hok,h1,h2,rfl,rfl,h5,h6⟩
theorem nbx_of {l n:BoxLoom} (h:n.Boxes=l.Boxes) (s:Nat):nbx n s=nbx l s:=by unfold nbx; rw [h]
theorem cst_rng {l : BoxLoom} (hl : LOk l) {gs : List (List Int)} {V : BoxPoint → Nat → Prop} (hV : Pts gs V) : ∀ (k : Nat) {l' : BoxLoom} {pt : BoxPoint}, LOk l' → l'.Boxes = l.Boxes → pt.race = rc l' → V pt k →
  0 ≤ cst (nbx l 0) (nbx l 1) (fun p s=>f58 p gs s) k pt∧cst (nbx l 0) (nbx l 1) (fun p s=>f58 p gs s) k pt ≤ never
 | 0,_,_,_,_,_,_=>by rw [cst]; unfold never; omega
 | k + 1,l',pt,hl',hB,hr,hv=>by
  rw [cst,hr,← nbx_of hB,← nbx_of hB,pkR_rc hl']
  have key:∀ (xs:List (BoxPick × BoxStep)) (b:Int),(∀ x ∈ xs,x ∈ stL l')→0 ≤ b∧b ≤ never→0 ≤ xs.foldl (cstS (fun p s=>f58 p gs s) (cst (nbx l' 0) (nbx l' 1) (fun p s=>f58 p gs s) k) pt) b∧xs.foldl (cstS (fun p s=>f58 p gs s) (cst (nbx l' 0) (nbx l' 1) (fun p s=>f58 p gs s) k) pt) b ≤ never:=fun xs=>by
   induction xs with
   | nil=>intro b _ hb; exact hb
   | cons x xs ih=>
    intro b hm hb
    rw [List.foldl_cons]
    refine ih _ (fun y hy=>hm y (by simp [hy])) ?_
    obtain ⟨n,i,_,_,h3,h4,h5,_,h7,h8⟩:=stL_mem hl' (hm x (by simp))
    obtain ⟨to,bb,e1,e2⟩:=hV.step x.2 hv
    unfold cstS
    simp only [e1]
    cases bb with
    | false=>exact hb
    | true=>
     obtain ⟨e3,e4⟩:=e2 rfl
     have:=cst_rng hl hV k h3 (h4.trans hB) (e3.trans h5) e4
     rw [← nbx_of hB,← nbx_of hB] at this
     simp only
     omega
  exact key _ _ (fun x hx=>hx) (by unfold never; omega)
theorem s57 {l : BoxLoom} (hl : LOk l) {gs : List (List Int)} {V : BoxPoint → Nat → Prop} (hV : Pts gs V) : ∀ (k : Nat) {l' : BoxLoom} {pt : BoxPoint} {m : List (BoxPoint × Int)} (n : Nat), k < n → LOk l' → l'.Boxes = l.Boxes → pt.race = rc l' → V pt k → KOk (nbx l 0) (nbx l 1) gs V m →
  Yes (f33 n ⟨(nbx l 0:Int),(nbx l 1:Int),⟨⟩⟩ m gs pt) (fun r=>r.1=cst (nbx l 0) (nbx l 1) (fun p s=>f58 p gs s) k pt∧KOk (nbx l 0) (nbx l 1) gs V r.2)
 | k,_,_,_,0,hk,_,_,_,_,_=>absurd hk (Nat.not_lt_zero _)
 | 0,l',pt,m,n + 1,hk,hl',hB,hr,hv,hm=>by
  rw [f33]
  exact Yes.jn (qtake (beq_iff_eq.2 ((hV.zero hv).2 rfl)) (Yes.some ⟨by rw [cst],hm⟩))
 | k + 1,l',pt,m,n + 1,hk,hl',hB,hr,hv,hm=>by
  rw [f33]
  refine Yes.jn (qskip (beq_eq_false_iff_ne.2 fun h=>absurd ((hV.zero hv).1 h) (by omega)) (Yes.jn (Yes.cond (fun hc=>?_) (fun hc=>?_))))
  ·obtain ⟨v, hv'⟩ := Option.isSome_iff_exists.1 hc
   refine Yes.some ⟨?_,hm⟩
   rw [hv']; exact hm.ok hv' hv
  ·refine Yes.bind ?_
   refine Yes.bind ?_
   show Yes (f74 _ _ _ _ _) _
   rw [hr,← nbx_of hB,← nbx_of hB]
   refine s98 hl' (runL_upto (stL l') (fun i s=>s.1=((stL l').take i).foldl (cstS (fun p s=>f58 p gs s) (cst (nbx l' 0) (nbx l' 1) (fun p s=>f58 p gs s) k) pt) never∧0 ≤ s.1∧s.1 ≤ never∧KOk (nbx l' 0) (nbx l' 1) gs V s.2) _ ⟨rfl,by show (0:Int) ≤ 1073741824; omega,by show (1073741824:Int) ≤ 1073741824; omega,by rw [nbx_of hB,nbx_of hB]; exact hm⟩ (fun i h s hI=>?_) (fun s hI=>?_))
   ·obtain ⟨b, mm⟩ := s
    obtain ⟨i1,i2,i3,i4⟩:=hI
    simp only at i1 i2 i3 i4
    obtain ⟨nl,c,_,_,h3,h4,h5,_,h7,h8⟩:=stL_mem hl' (List.getElem_mem h)
    obtain ⟨to,bb,e1,e2⟩:=hV.step (stL l')[i].2 hv
    rw [take_succ h,List.foldl_append,← i1]
    show Yes ((f58 pt gs (stL l')[i].2).bind _) _
    rw [e1,Option.bind_some]
    have hs:cstS (fun p s=>f58 p gs s) (cst (nbx l' 0) (nbx l' 1) (fun p s=>f58 p gs s) k) pt b (stL l')[i]=bif bb then min b ((stL l')[i].2.moves + cst (nbx l' 0) (nbx l' 1) (fun p s=>f58 p gs s) k to) else b:=by
     unfold cstS; simp only [e1]; cases bb <;> rfl
    rw [List.foldl_cons,List.foldl_nil,hs]
    cases bb with
    | false=>exact qskip rfl (Yes.some ⟨rfl,rfl,i2,i3,i4⟩)
    | true=>
     obtain ⟨e3,e4⟩:=e2 rfl
     have rg:=cst_rng hl' hV k h3 h4 (e3.trans h5) e4
     refine qtake rfl (Yes.bind ((s57 hl' hV k n (by omega) h3 h4 (e3.trans h5) e4 i4).mono fun r hr'=>Yes.some ?_))
     obtain ⟨g1,g2⟩:=hr'
     have hw:w64 ((stL l')[i].2.moves + cst (nbx l' 0) (nbx l' 1) (fun p s=>f58 p gs s) k to)=(stL l')[i].2.moves + cst (nbx l' 0) (nbx l' 1) (fun p s=>f58 p gs s) k to:=w64_id (by omega) (by unfold never at rg; omega)
     have hfin:min64 b (w64 ((stL l')[i].2.moves + r.1))=min b ((stL l')[i].2.moves + cst (nbx l' 0) (nbx l' 1) (fun p s=>f58 p gs s) k to):=by rw [g1,hw,min64_eq]
     exact ⟨rfl,hfin,by show 0 ≤ min64 b (w64 ((stL l')[i].2.moves + r.1)); rw [hfin]; omega,by show min64 b (w64 ((stL l')[i].2.moves + r.1)) ≤ never; rw [hfin]; omega,g2⟩
   ·obtain ⟨i1, i2, i3, i4⟩ := hI
    rw [List.take_length] at i1
    have he:s.1=cst (nbx l' 0) (nbx l' 1) (fun p s=>f58 p gs s) (k + 1) pt:=by rw [i1,cst,hr,pkR_rc hl']
    refine Yes.some (Yes.some ⟨he,⟨fun {p v k'} hg hv'=>?_⟩⟩)
    rw [mgetm] at hg
    split at hg
    ·rename_i hp; subst hp
     cases hg
     rw [hV.one hv' hv]; exact he
    ·exact i4.ok hg hv'
noncomputable def minS (l:BoxLoom) (c:Int) (F:BoxLoom→Int) (b:Int) (p:BoxPick):Int:=match oneL l p with | some x=>if colr l x.2.1=c then min b (x.2.2 + F x.1) else b | none=>b
noncomputable def cL : List Int → BoxLoom → Int
 | [],_=>0
 | c :: cs,l=>(allP l).foldl (minS l c (fun n=>cL cs n)) never
noncomputable def rfS (l:BoxLoom) (c:Int) (k:Int) (F:BoxLoom→List BoxPick × Int × Int) (s:List BoxPick × Int × Int × Bool) (p:BoxPick):List BoxPick × Int × Int × Bool:=
 match oneL l p with
 | some x => if colr l x.2.1 = c then
   (if (F x.1).2.2=k∧(s.2.2.2=false ∨ x.2.2 + (F x.1).2.1 < s.2.1) then (p :: (F x.1).1,x.2.2 + (F x.1).2.1,max s.2.2.1 (1 + (F x.1).2.2),true) else (s.1,s.2.1,max s.2.2.1 (1 + (F x.1).2.2),s.2.2.2))
  else s
 | none=>s
noncomputable def rf : List Int → BoxLoom → List BoxPick × Int × Int
 | [],_=>([],0,0)
 | c :: cs,l=>(fun s=>(s.1,s.2.1,s.2.2.1)) ((allP l).foldl (rfS l c (cs.length:Int) (fun n=>rf cs n)) ([],0,0,false))
def Wv (l:BoxLoom) (c:Int) (p:BoxPick) (x:BoxLoom × Nat × Int):Prop:=oneL l p=some x∧colr l x.2.1=c
theorem wv_ok {l:BoxLoom} (hl:LOk l) {c:Int} {p:BoxPick} (hp:p ∈ allP l) {x:BoxLoom × Nat × Int} (h:Wv l c p x):LOk x.1∧x.1.Boxes=l.Boxes∧0 ≤ x.2.2∧x.2.2 ≤ 6:=by
 obtain ⟨n,i,m⟩:=x
 obtain ⟨h1,h2,_,_,h5,h6⟩:=oneL_ok hl ((mem_allP hl).1 hp) h.1
 exact ⟨h1,h2,h5,h6⟩
theorem Wv.one {l:BoxLoom} {c:Int} {p:BoxPick} {x y:BoxLoom × Nat × Int} (h:Wv l c p x) (k:Wv l c p y):x=y:=Option.some.inj (h.1.symm.trans k.1)
theorem minS_cases (l:BoxLoom) (c:Int) (F:BoxLoom→Int) (b:Int) (p:BoxPick):(∃ x,Wv l c p x∧minS l c F b p=min b (x.2.2 + F x.1)) ∨ ((∀ x,¬ Wv l c p x)∧minS l c F b p=b):=by
 unfold minS Wv
 cases ho:oneL l p with
 | none=>exact .inr ⟨fun x h=>(by cases h.1),rfl⟩
 | some x=>
  by_cases hc:colr l x.2.1=c
  ·exact .inl ⟨x,⟨rfl,hc⟩,by simp only [if_pos hc]⟩
  ·exact .inr ⟨fun y h=>hc (by rw [Option.some.inj h.1]; exact h.2),by simp only [if_neg hc]⟩
theorem fold_lt {l : BoxLoom} {c : Int} {F : BoxLoom → Int} {t : Int} : ∀ (xs : List BoxPick) (b : Int), xs.foldl (minS l c F) b < t ↔ b < t ∨ ∃ q ∈ xs, ∃ x, Wv l c q x ∧ x.2.2 + F x.1 < t
 | [],b=>by simp
 | p :: xs,b=>by
  rw [List.foldl_cons,fold_lt xs]
  rcases minS_cases l c F b p with ⟨x,hx,e⟩ | ⟨hn,e⟩
  ·rw [e]
   constructor
   ·rintro (h | ⟨q, hq, h⟩)
    ·by_cases hb : b < t
     ·exact .inl hb
     ·exact .inr ⟨p,by simp,x,hx,by omega⟩
    ·exact .inr ⟨q,by simp [hq],h⟩
   ·rintro (h | ⟨q, hq, y, hy, h⟩)
    ·exact .inl (by omega)
    ·rcases List.mem_cons.1 hq with rfl | hq
     ·rw [hx.one hy]; exact .inl (by omega)
     ·exact .inr ⟨q,hq,y,hy,h⟩
  ·rw [e]
   constructor
   ·rintro (h | ⟨q, hq, h⟩)
    ·exact .inl h
    ·exact .inr ⟨q,by simp [hq],h⟩
   ·rintro (h | ⟨q, hq, y, hy, h⟩)
    ·exact .inl h
    ·rcases List.mem_cons.1 hq with rfl | hq
     ·exact absurd hy (hn y)
     ·exact .inr ⟨q,hq,y,hy,h⟩
theorem cL_rng : ∀ (cs : List Int) {l : BoxLoom}, LOk l → cs.length ≤ 1000 → 0 ≤ cL cs l ∧ (cL cs l = never ∨ cL cs l ≤ 6 * cs.length)
 | [],l,_,_=>by rw [cL]; simp
 | c :: cs,l,hl,hlen=>by
  rw [cL]
  simp only [List.length_cons] at hlen ⊢
  have key:∀ (xs:List BoxPick) (b:Int),(∀ x ∈ xs,x ∈ allP l)→0 ≤ b∧(b=never ∨ b ≤ 6 * ((cs.length + 1:Nat):Int))→0 ≤ xs.foldl (minS l c (fun n=>cL cs n)) b∧(xs.foldl (minS l c (fun n=>cL cs n)) b=never ∨ xs.foldl (minS l c (fun n=>cL cs n)) b ≤ 6 * ((cs.length + 1:Nat):Int)):=fun xs=>by
   induction xs with
   | nil=>intro b _ h; exact h
   | cons p xs ih=>
    intro b hm hb
    rw [List.foldl_cons]
    refine ih _ (fun y hy=>hm y (by simp [hy])) ?_
    rcases minS_cases l c (fun n=>cL cs n) b p with ⟨x,hx,e⟩ | ⟨_,e⟩
    ·obtain ⟨h1, _, h3, h4⟩ := wv_ok hl (hm p (by simp)) hx
     have:=cL_rng cs h1 (by omega)
     rw [e]; unfold never at *; omega
    ·rw [e]; exact hb
  exact key _ _ (fun x hx=>hx) ⟨by unfold never; omega,.inl rfl⟩
structure RfI (l : BoxLoom) (c : Int) (cs : List Int) (xs : List BoxPick) (s : List BoxPick × Int × Int × Bool) : Prop where
 no:s.2.2.2=false→xs.foldl (minS l c (fun n=>cL cs n)) never=never
 yes:s.2.2.2=true→xs.foldl (minS l c (fun n=>cL cs n)) never < never∧s.2.1=xs.foldl (minS l c (fun n=>cL cs n)) never∧∃ x1 p x2 x,xs=x1 ++ p :: x2∧Wv l c p x∧x.2.2 + cL cs x.1=s.2.1∧s.1=p :: (rf cs x.1).1∧∀ q ∈ x1,∀ y,Wv l c q y→s.2.1 < y.2.2 + cL cs y.1
 far:0 ≤ s.2.2.1∧s.2.2.1 ≤ (cs.length:Int) + 1∧∀ k:Nat,(k:Int) + 1 ≤ s.2.2.1 ↔ ∃ q ∈ xs,∃ x,Wv l c q x∧(k:Int) ≤ (rf cs x.1).2.2
structure RfOk (cs : List Int) (l : BoxLoom) : Prop where
 far:0 ≤ (rf cs l).2.2∧(rf cs l).2.2 ≤ cs.length
 pre:∀ k:Nat,k ≤ cs.length→(cL (cs.take k) l < never ↔ (k:Int) ≤ (rf cs l).2.2)
 mv:cL cs l < never→(rf cs l).2.1=cL cs l
 bd:0 ≤ (rf cs l).2.1∧(rf cs l).2.1 ≤ 6 * cs.length∧(rf cs l).1.length ≤ cs.length
theorem RfOk.all {cs:List Int} {l:BoxLoom} (h:RfOk cs l):cL cs l < never ↔ (rf cs l).2.2=cs.length:=by
 have:=h.pre cs.length (Nat.le_refl _)
 rw [List.take_length] at this
 have h2:=h.far
 omega
theorem rfS_cases (l : BoxLoom) (c k : Int) (F : BoxLoom → List BoxPick × Int × Int) (s : List BoxPick × Int × Int × Bool) (p : BoxPick) :
  (∃ x,Wv l c p x∧rfS l c k F s p=if (F x.1).2.2=k∧(s.2.2.2=false ∨ x.2.2 + (F x.1).2.1 < s.2.1) then (p :: (F x.1).1,x.2.2 + (F x.1).2.1,max s.2.2.1 (1 + (F x.1).2.2),true) else (s.1,s.2.1,max s.2.2.1 (1 + (F x.1).2.2),s.2.2.2)) ∨ ((∀ x,¬ Wv l c p x)∧rfS l c k F s p=s):=by
 unfold rfS Wv
 cases ho:oneL l p with
 | none=>exact .inr ⟨fun x h=>(by cases h.1),rfl⟩
 | some x=>
  by_cases hc:colr l x.2.1=c
  ·exact .inl ⟨x,⟨rfl,hc⟩,by simp only [if_pos hc]⟩
  ·exact .inr ⟨fun y h=>hc (by rw [Option.some.inj h.1]; exact h.2),by simp only [if_neg hc]⟩
theorem rf_bd {l : BoxLoom} (hl : LOk l) {c : Int} {cs : List Int} (hF : ∀ n, LOk n → RfOk cs n) : ∀ (xs : List BoxPick) (s : List BoxPick × Int × Int × Bool), (∀ p ∈ xs, p ∈ allP l) → 0 ≤ s.2.1 ∧ s.2.1 ≤ 6 * ((cs.length : Int) + 1) ∧ s.1.length ≤ cs.length + 1 →
  0 ≤ (xs.foldl (rfS l c (cs.length:Int) (fun n=>rf cs n)) s).2.1∧(xs.foldl (rfS l c (cs.length:Int) (fun n=>rf cs n)) s).2.1 ≤ 6 * ((cs.length:Int) + 1)∧(xs.foldl (rfS l c (cs.length:Int) (fun n=>rf cs n)) s).1.length ≤ cs.length + 1
 | [],s,_,h=>h
 | p :: xs,s,hm,h=>by
  rw [List.foldl_cons]
  refine rf_bd hl hF xs _ (fun q hq=>hm q (by simp [hq])) ?_
  rcases rfS_cases l c (cs.length:Int) (fun n=>rf cs n) s p with ⟨x,hx,e⟩ | ⟨_,e⟩
  ·obtain ⟨h1, _, h3, h4⟩ := wv_ok hl (hm p (by simp)) hx
   have hb:=(hF x.1 h1).bd
   rw [e]
   split
   ·simp only [List.length_cons]; omega
   ·exact h
  ·rw [e]; exact h
theorem rf_step {l:BoxLoom} (hl:LOk l) {c:Int} {cs:List Int} (hlen:cs.length ≤ 1000) (hF:∀ n,LOk n→RfOk cs n) {xs:List BoxPick} {p:BoxPick} (hp:p ∈ allP l) {s:List BoxPick × Int × Int × Bool} (h:RfI l c cs xs s):RfI l c cs (xs ++ [p]) (rfS l c (cs.length:Int) (fun n=>rf cs n) s p):=by
 obtain ⟨hno,hyes,f0,f1,f2⟩:=h
 rcases rfS_cases l c (cs.length:Int) (fun n=>rf cs n) s p with ⟨x,hx,e⟩ | ⟨hn,e⟩
 ·obtain ⟨h1, _, h3, h4⟩ := wv_ok hl hp hx
  have hr:=hF x.1 h1
  have hc:=cL_rng cs h1 hlen
  have hfold:(xs ++ [p]).foldl (minS l c (fun n=>cL cs n)) never=min (xs.foldl (minS l c (fun n=>cL cs n)) never) (x.2.2 + cL cs x.1):=by
   rw [List.foldl_append,List.foldl_cons,List.foldl_nil]
   rcases minS_cases l c (fun n=>cL cs n) (xs.foldl (minS l c (fun n=>cL cs n)) never) p with ⟨y,hy,e2⟩ | ⟨hn,_⟩
   ·rw [e2,hx.one hy]
   ·exact absurd hx (hn x)
  have hfar:∀ k:Nat,(k:Int) + 1 ≤ max s.2.2.1 (1 + (rf cs x.1).2.2) ↔ ∃ q ∈ xs ++ [p],∃ x,Wv l c q x∧(k:Int) ≤ (rf cs x.1).2.2:=fun k=>by
   constructor
   ·intro hk
    by_cases hks:(k:Int) + 1 ≤ s.2.2.1
    ·obtain ⟨q, hq, y, hy, hk2⟩ := (f2 k).1 hks
     exact ⟨q,by simp [hq],y,hy,hk2⟩
    ·exact ⟨p,by simp,x,hx,by omega⟩
   ·rintro ⟨q, hq, y, hy, hk2⟩
    rcases List.mem_append.1 hq with hq | hq
    ·have:=(f2 k).2 ⟨q,hq,y,hy,hk2⟩; omega
    ·rw [List.mem_singleton.1 hq] at hy
     rw [hx.one hy]; omega
  have hff:=hr.far
  rw [e]
  split
  ·rename_i hcond
   obtain ⟨c1,c2⟩:=hcond
   have hlt:=hr.all.2 c1
   have hmv:=hr.mv hlt
   refine ⟨fun hf=>(by cases hf),fun _=>?_,⟨by show 0 ≤ max _ _; omega,by show max _ _ ≤ _; omega,hfar⟩⟩
   have hval:x.2.2 + cL cs x.1 < xs.foldl (minS l c (fun n=>cL cs n)) never:=by
    rcases c2 with c2 | c2
    ·rw [hno c2]; unfold never at *; omega
    ·by_cases hfd : s.2.2.2 = true
     ·obtain ⟨y1, y2, _⟩ := hyes hfd
      rw [← y2]; simp only [hmv] at c2; exact c2
     ·rw [hno (by simpa using hfd)]; unfold never at *; omega
   have hlt2:xs.foldl (minS l c (fun n=>cL cs n)) never ≤ never:=by
    rcases Int.lt_or_le never (xs.foldl (minS l c (fun n=>cL cs n)) never) with hh | hh
    ·by_cases hfd : s.2.2.2 = true
     ·have:=(hyes hfd).1; omega
     ·rw [hno (by simpa using hfd)] at hh; omega
    ·exact hh
   rw [hfold]
   refine ⟨by omega,?_,xs,p,[],x,rfl,hx,?_,rfl,fun q hq y hy=>?_⟩
   ·show x.2.2 + (rf cs x.1).2.1=_; rw [hmv]; omega
   ·show _=x.2.2 + (rf cs x.1).2.1; rw [hmv]
   ·show x.2.2 + (rf cs x.1).2.1 < _
    rw [hmv]
    have:¬ (y.2.2 + cL cs y.1 < xs.foldl (minS l c (fun n=>cL cs n)) never∧False):=fun h=>h.2
    rcases Int.lt_or_le (x.2.2 + cL cs x.1) (y.2.2 + cL cs y.1) with hh | hh
    ·exact hh
    ·have := (fold_lt (l := l) (c := c) (F := fun n => cL cs n) (t := x.2.2 + cL cs x.1 + 1) xs never).2 (.inr ⟨q, hq, y, hy, by show y.2.2 + cL cs y.1 < _; omega⟩)
     omega
  ·rename_i hcond
   refine ⟨fun hf=>?_,fun hf=>?_,⟨by show 0 ≤ max _ _; omega,by show max _ _ ≤ _; omega,hfar⟩⟩
   ·have hf : s.2.2.2 = false := hf
    rw [hfold,hno hf]
    have:cL cs x.1=never:=by
     rcases hc.2 with h | h
     ·exact h
     ·exact absurd ⟨hr.all.1 (by unfold never; omega),.inl hf⟩ hcond
    omega
   ·have hf : s.2.2.2 = true := hf
    obtain ⟨y1,y2,x1,p1,x2,x',z1,z2,z3,z4,z5⟩:=hyes hf
    have hge:xs.foldl (minS l c (fun n=>cL cs n)) never ≤ x.2.2 + cL cs x.1:=by
     rcases Int.lt_or_le (cL cs x.1) never with hlt | hge
     ·have hcm : ¬ (x.2.2 + (rf cs x.1).2.1 < s.2.1) := fun hh => hcond ⟨hr.all.1 hlt, .inr hh⟩
      rw [hr.mv hlt] at hcm; omega
     ·omega
    rw [hfold,Int.min_eq_left hge]
    exact ⟨y1,y2,x1,p1,x2 ++ [p],x',by rw [z1]; simp,z2,z3,z4,z5⟩
 ·have hfold:(xs ++ [p]).foldl (minS l c (fun n=>cL cs n)) never=xs.foldl (minS l c (fun n=>cL cs n)) never:=by
   rw [List.foldl_append,List.foldl_cons,List.foldl_nil]
   rcases minS_cases l c (fun n=>cL cs n) (xs.foldl (minS l c (fun n=>cL cs n)) never) p with ⟨y,hy,_⟩ | ⟨_,e2⟩
   ·exact absurd hy (hn y)
   ·exact e2
  rw [e]
  refine ⟨fun hf=>by rw [hfold]; exact hno hf,fun hf=>?_,f0,f1,fun k=>(f2 k).trans ⟨fun ⟨q,hq,h⟩=>⟨q,by simp [hq],h⟩,fun ⟨q,hq,y,hy,h⟩=>?_⟩⟩
  ·obtain ⟨y1, y2, x1, p1, x2, x', z1, z2, z3, z4, z5⟩ := hyes hf
   rw [hfold]
   exact ⟨y1,y2,x1,p1,x2 ++ [p],x',by rw [z1]; simp,z2,z3,z4,z5⟩
  ·rcases List.mem_append.1 hq with hq | hq
   ·exact ⟨q,hq,y,hy,h⟩
   ·rw [List.mem_singleton.1 hq] at hy; exact absurd hy (hn y)
theorem rf_fold {l : BoxLoom} (hl : LOk l) {c : Int} {cs : List Int} (hlen : cs.length ≤ 1000) (hF : ∀ n, LOk n → RfOk cs n) : ∀ (ys xs : List BoxPick) (s : List BoxPick × Int × Int × Bool), (∀ p ∈ ys, p ∈ allP l) → RfI l c cs xs s → RfI l c cs (xs ++ ys) (ys.foldl (rfS l c (cs.length : Int) (fun n => rf cs n)) s)
 | [],xs,s,_,h=>by rw [List.append_nil]; exact h
 | p :: ys,xs,s,hm,h=>by
  rw [List.foldl_cons,show xs ++ p :: ys=(xs ++ [p]) ++ ys by simp]
  exact rf_fold hl hlen hF ys _ _ (fun q hq=>hm q (by simp [hq])) (rf_step hl hlen hF (hm p (by simp)) h)
theorem rf_I {l:BoxLoom} (hl:LOk l) {c:Int} {cs:List Int} (hlen:cs.length ≤ 1000) (hF:∀ n,LOk n→RfOk cs n):RfI l c cs (allP l) ((allP l).foldl (rfS l c (cs.length:Int) (fun n=>rf cs n)) ([],0,0,false)):=
 rf_fold hl hlen hF (allP l) [] _ (fun p hp=>hp) ⟨fun _=>rfl,fun h=>(by cases h),by simp,by show (0:Int) ≤ _; omega,fun k=>⟨fun h=>by have h:(k:Int) + 1 ≤ 0:=h; omega,fun ⟨q,hq,_⟩=>by cases hq⟩⟩
theorem rf_ok : ∀ (cs : List Int), cs.length ≤ 1000 → ∀ {l : BoxLoom}, LOk l → RfOk cs l
 | [],_,l,_=>⟨by rw [rf]; simp,fun k hk=>by
   have:k=0:=by simpa using hk
   subst this; rw [rf,List.take_nil,cL]; unfold never; simp,fun _=>by rw [rf,cL],by rw [rf]; simp⟩
 | c :: cs,hlen,l,hl=>by
  simp only [List.length_cons] at hlen
  have hF:∀ n,LOk n→RfOk cs n:=fun n hn=>rf_ok cs (by omega) hn
  obtain ⟨hno,hyes,f0,f1,f2⟩:=rf_I hl (c:=c) (by omega) hF
  have hbd:=rf_bd hl (c:=c) hF (allP l) ([],0,0,false) (fun p hp=>hp) ⟨by simp,by simp; omega,by simp⟩
  have e1:(rf (c :: cs) l).1=((allP l).foldl (rfS l c (cs.length:Int) (fun n=>rf cs n)) ([],0,0,false)).1:=by rw [rf]
  have e2:(rf (c :: cs) l).2.1=((allP l).foldl (rfS l c (cs.length:Int) (fun n=>rf cs n)) ([],0,0,false)).2.1:=by rw [rf]
  have e3:(rf (c :: cs) l).2.2=((allP l).foldl (rfS l c (cs.length:Int) (fun n=>rf cs n)) ([],0,0,false)).2.2.1:=by rw [rf]
  refine ⟨by rw [e3]; simp only [List.length_cons]; omega,fun k hk=>?_,fun hlt=>?_,by rw [e1,e2]; simp only [List.length_cons]; omega⟩
  ·rw [e3]
   cases k with
   | zero=>rw [List.take_zero,cL]; unfold never; simp; omega
   | succ k=>
    simp only [List.length_cons] at hk
    rw [List.take_succ_cons,cL,fold_lt]
    rw [show (((k + 1:Nat):Int))=(k:Int) + 1 by simp,f2 k]
    constructor
    ·rintro (h | ⟨q, hq, x, hx, h⟩)
     ·exact absurd h (Int.lt_irrefl _)
     ·obtain ⟨h1, _, h3, _⟩ := wv_ok hl hq hx
      exact ⟨q,hq,x,hx,((hF _ h1).pre k (by omega)).1 (by omega)⟩
    ·rintro ⟨q, hq, x, hx, h⟩
     obtain ⟨h1,_,h3,h4⟩:=wv_ok hl hq hx
     have hlt:=((hF _ h1).pre k (by omega)).2 h
     have hr:=cL_rng (cs.take k) h1 (by simp; omega)
     refine .inr ⟨q,hq,x,hx,?_⟩
     have:(cs.take k).length ≤ 1000:=by simp; omega
     unfold never at *
     omega
  ·have hfd:((allP l).foldl (rfS l c (cs.length:Int) (fun n=>rf cs n)) ([],0,0,false)).2.2.2=true:=by
    cases hb:((allP l).foldl (rfS l c (cs.length:Int) (fun n=>rf cs n)) ([],0,0,false)).2.2.2 with
    | true=>rfl
    | false=>rw [cL,hno hb] at hlt; exact absurd hlt (Int.lt_irrefl _)
   rw [e2,(hyes hfd).2.1,cL]
theorem rf_first {c : Int} {cs : List Int} (hlen : cs.length ≤ 1000) {l : BoxLoom} (hl : LOk l) (hlt : cL (c :: cs) l < never) :
  ∃ x1 p x2 x,allP l=x1 ++ p :: x2∧Wv l c p x∧x.2.2 + cL cs x.1=cL (c :: cs) l∧(rf (c :: cs) l).1=p :: (rf cs x.1).1∧∀ q ∈ x1,∀ y,Wv l c q y→cL (c :: cs) l < y.2.2 + cL cs y.1:=by
 obtain ⟨hno,hyes,_⟩:=rf_I hl (c:=c) hlen fun n hn=>rf_ok cs hlen hn
 have hfd:((allP l).foldl (rfS l c (cs.length:Int) (fun n=>rf cs n)) ([],0,0,false)).2.2.2=true:=by
  cases hb:((allP l).foldl (rfS l c (cs.length:Int) (fun n=>rf cs n)) ([],0,0,false)).2.2.2 with
  | true=>rfl
  | false=>rw [cL,hno hb] at hlt; exact absurd hlt (Int.lt_irrefl _)
 obtain ⟨_,y2,x1,p,x2,x,z1,z2,z3,z4,z5⟩:=hyes hfd
 have:((allP l).foldl (rfS l c (cs.length:Int) (fun n=>rf cs n)) ([],0,0,false)).2.1=cL (c :: cs) l:=by rw [y2,cL]
 exact ⟨x1,p,x2,x,z1,z2,by rw [z3,this],by rw [rf]; exact z4,fun q hq y hy=>by rw [← this]; exact z5 q hq y hy⟩
def sgl (cs:List Int):List (List Int):=cs.map fun c=>[c]
theorem sgl_len {cs:List Int}:(sgl cs).length=cs.length:=by simp [sgl]
theorem sgl_at {cs:List Int} {i:Nat} (h:i < cs.length):idx (sgl cs) (i:Int)=some [cs[i]]:=by rw [qidx (by rw [sgl_len]; exact h)]; simp [sgl]
theorem s53 (cs:List Int) (h:cs.length ≤ 1000):f29 cs=some (sgl cs):=by
 refine Yes.eq ?_
 unfold f29
 refine Yes.bind (Yes.mono (Q':=fun r=>r=sgl cs) ?_ fun r hr=>Yes.some hr)
 refine Yes.upto cs.length (by omega) (fun i s=>s=(sgl cs).take i) (by simp) (fun i s k hi hI hk=>?_) (fun s k hI=>qskip (by simp) (Yes.some ?_))
 ·have hs : s.length ≤ 1000 := by rw [hI]; simp [sgl]; omega
  refine qtake (by simp; omega) (Yes.bind (qbind _ (qidx hi) (Yes.bind (Yes.apnd (by simp; omega) (by simp; omega) (Yes.some (hk _ ?_))))))
  rw [take_succ (by rw [sgl_len]; exact hi),hI]
  simp [sgl]
 ·rw [hI,← sgl_len,List.take_length]
def Vs (cs:List Int) (pt:BoxPoint) (k:Nat):Prop:=∃ g:Nat,pt.group=(g:Int)∧pt.done=0∧g + k=cs.length
theorem s65s {cs:List Int} {g:Nat} (hg:g < cs.length) (hl:cs.length ≤ 1000) (r:BoxRace):f76 ⟨(g:Int),1,r⟩ (sgl cs)=some ⟨((g + 1:Nat):Int),0,r⟩:=by
 refine Yes.eq ?_
 unfold f76
 refine Yes.bind (Yes.mono (Q':=fun p=>p=⟨((g + 1:Nat):Int),0,r⟩) ?_ fun p hp=>Yes.some hp)
 have sh:shl64 (1:Int) (([cs[g]]:List Int).length:Int)=some 2:=rfl
 refine Yes.lp (fun s=>s=⟨(g:Int),1,r⟩ ∨ s=⟨((g + 1:Nat):Int),0,r⟩) (fun s=>s.done.toNat) (.inl rfl) (by simp) ?_
 rintro s kk (rfl | rfl) hk
 ·refine Yes.jn (Yes.bind (qtake (decide_eq_true (by show (g : Int) < ((sgl cs).length : Int); rw [sgl_len]; omega)) (qbind _ (sgl_at hg) (qbind 2 rfl (Yes.some (qtake rfl (hk _ (.inr ?_) ?_)))))))
  ·show (⟨w64 ((g : Int) + 1), 0, r⟩ : BoxPoint) = _
   rw [w64_id (by omega) (by omega)]; simp
  ·show (0:Nat) < 1; omega
 ·refine Yes.jn (Yes.bind (Yes.cond (fun hc => ?_) (fun hc => Yes.some (qskip rfl (Yes.some rfl)))))
  have hlt:((g + 1:Nat):Int) < ((sgl cs).length:Int):=of_decide_eq_true hc
  rw [sgl_len] at hlt
  exact qbind _ (sgl_at (i:=g + 1) (by omega)) (qbind 2 rfl (Yes.some (qskip rfl (Yes.some rfl))))
theorem s88s {cs:List Int} {g:Nat} (hg:g < cs.length) (hl:cs.length ≤ 1000) (r:BoxRace) (s:BoxStep):f58 ⟨(g:Int),0,r⟩ (sgl cs) s=some (bif cs[g] == s.colour then (⟨((g + 1:Nat):Int),0,s.next⟩,true) else (⟨(g:Int),0,r⟩,false)):=by
 refine Yes.eq ?_
 unfold f58
 have hb1:bit64 .or (0:Int) 1=1:=by decide
 refine Yes.jn (qbind _ (sgl_at hg) ?_)
 refine Yes.lp (fun t=>t.1=⟨(g:Int),0,r⟩∧(t.2.2=0 ∨ (t.2.2=1∧(cs[g] == s.colour)=false))) (fun t=>1 - t.2.2.toNat) ⟨rfl,.inl rfl⟩ (by simp) ?_
 rintro ⟨p,q,u⟩ kk ⟨rfl,hu⟩ hk
 simp only at hu
 rcases hu with rfl | ⟨rfl,hc⟩
 ·refine qtake rfl (Yes.jn (qbind (cs[g]) rfl (Yes.bind (Yes.cond (fun hc => qbind (0 : Int) rfl (Yes.some ?_)) (fun hc => Yes.some (qskip rfl (hk _ ⟨rfl, .inr ⟨rfl, hc⟩⟩ ?_)))))))
  ·refine qtake rfl (qbind (1 : Int) rfl ?_)
   dsimp only
   rw [hb1]
   refine qbind _ (s65s hg hl s.next) (Yes.some ?_)
   rw [hc]; rfl
  ·show 1 - (1:Int).toNat < 1 - (0:Int).toNat; omega
 ·refine qskip rfl (Yes.some ?_)
  rw [hc]; rfl
theorem pts_sgl {cs : List Int} (hl : cs.length ≤ 1000) : Pts (sgl cs) (Vs cs) where
 zero:=by
  rintro pt k ⟨g,h1,h2,h3⟩
  rw [h1,sgl_len]
  constructor
  ·intro h; omega
  ·intro h; omega
 one:=by
  rintro pt k k' ⟨g,h1,h2,h3⟩ ⟨g',h1',h2',h3'⟩
  omega
 step:=by
  rintro pt k s ⟨g,h1,h2,h3⟩
  obtain ⟨pg,pd,pr⟩:=pt
  simp only at h1 h2
  subst h1 h2
  refine ⟨_,_,s88s (by omega) hl pr s,?_⟩
  cases hc:cs[g] == s.colour with
  | false=>intro h; cases h
  | true=>intro _; exact ⟨rfl,g + 1,rfl,rfl,by omega⟩
theorem foldl_mem {α β : Type} {f g : β → α → β} : ∀ (xs : List α) (b : β), (∀ x ∈ xs, ∀ b, f b x = g b x) → xs.foldl f b = xs.foldl g b
 | [],_,_=>rfl
 | x :: xs,b,h=>by rw [List.foldl_cons,List.foldl_cons,h x (by simp),foldl_mem xs _ fun y hy=>h y (by simp [hy])]
theorem cst_cL {l : BoxLoom} {cs : List Int} (hlen : cs.length ≤ 1000) : ∀ (k : Nat) {l' : BoxLoom} {pt : BoxPoint}, LOk l' → l'.Boxes = l.Boxes → pt.race = rc l' → Vs cs pt k → cst (nbx l 0) (nbx l 1) (fun p s => f58 p (sgl cs) s) k pt = cL (cs.drop (cs.length - k)) l'
 | 0,l',pt,_,_,_,_=>by rw [cst,Nat.sub_zero,List.drop_length,cL]
 | k + 1,l',pt,hl',hB,hr,hv=>by
  obtain ⟨g,h1,h2,h3⟩:=hv
  have hg:g < cs.length:=by omega
  have hd:cs.drop (cs.length - (k + 1))=cs[g] :: cs.drop (cs.length - k):=by
   rw [show cs.length - (k + 1)=g by omega,show cs.length - k=g + 1 by omega]; exact List.drop_eq_getElem_cons hg
  rw [cst,hd,cL,hr,← nbx_of hB,← nbx_of hB,pkR_rc hl']
  unfold stL
  rw [List.foldl_filterMap]
  refine foldl_mem _ _ fun p hp b=>?_
  obtain ⟨pg,pd,pr⟩:=pt
  simp only at h1 h2 hr
  subst h1 h2
  unfold stp minS
  cases ho:oneL l' p with
  | none=>rfl
  | some x=>
   obtain ⟨h4,h5,_⟩:=oneL_ok hl' ((mem_allP hl').1 hp) (show oneL l' p=some (x.1,x.2.1,x.2.2) from ho)
   simp only [Option.map_some]
   unfold cstS
   simp only [s88s hg hlen]
   by_cases hc:colr l' x.2.1=cs[g]
   ·rw [if_pos hc, show (cs[g] == colr l' x.2.1) = true from beq_iff_eq.2 hc.symm]
    simp only [cond_true]
    rw [nbx_of hB,nbx_of hB,cst_cL hlen k h4 (h5.trans hB) rfl ⟨g + 1,rfl,rfl,by omega⟩]
   ·rw [if_neg hc, show (cs[g] == colr l' x.2.1) = false from beq_eq_false_iff_ne.2 fun h => hc h.symm]
    rfl
theorem runL_first {σ α : Type} {cons : Cons σ α} {Q : σ → Prop} {I : σ → Prop} : ∀ (xs : List α) (x : α) (ys : List α) (s : σ), I s → (∀ y ∈ xs, ∀ s, I s → Yes (cons s y) (fun r => r.1 = true ∧ I r.2)) → (∀ s, I s → Yes (cons s x) (fun r => r.1 = false ∧ Q r.2)) → Yes (runL cons (xs ++ x :: ys) s) Q
 | [],x,ys,s,hs,_,hx=>by
  obtain ⟨r,hr,h1,h2⟩:=hx s hs
  rw [List.nil_append,runL,hr,Option.bind_some,h1]
  exact Yes.some h2
 | y :: xs,x,ys,s,hs,hy,hx=>by
  obtain ⟨r,hr,h1,h2⟩:=hy y (by simp) s hs
  rw [List.cons_append,runL,hr,Option.bind_some,h1]
  exact runL_first xs x ys r.2 h2 (fun z hz=>hy z (by simp [hz])) hx
theorem guardC_0 {SV α:Type} (body:SV→α→Option (Bool × (Nat × SV))) (s:SV) (x:α):guardC body (0,s) x=body s x:=rfl
theorem s58 {l : BoxLoom} (hl : LOk l) {cs : List Int} (hlen : cs.length ≤ 1000) {k : Nat} (hk : k < 1000) {l' : BoxLoom} {pt : BoxPoint} {m : List (BoxPoint × Int)} (hl' : LOk l') (hB : l'.Boxes = l.Boxes) (hr : pt.race = rc l') (hv : Vs cs pt (k + 1)) (hm : KOk (nbx l 0) (nbx l 1) (sgl cs) (Vs cs) m)
  (hlt:cL (cs.drop (cs.length - (k + 1))) l' < never) :
  Yes (f34 ⟨(nbx l 0:Int),(nbx l 1:Int),⟨⟩⟩ m (sgl cs) pt) (fun r=>∃ n,LOk n∧n.Boxes=l.Boxes∧r.2.1.race=rc n∧Vs cs r.2.1 k∧KOk (nbx l 0) (nbx l 1) (sgl cs) (Vs cs) r.2.2∧(rf (cs.drop (cs.length - (k + 1))) l').1=r.1 :: (rf (cs.drop (cs.length - k)) n).1∧cL (cs.drop (cs.length - k)) n < never):=by
 have hV:=pts_sgl (cs:=cs) hlen
 obtain ⟨g,h1,h2,h3⟩:=hv
 have hg:g < cs.length:=by omega
 have hd:cs.drop (cs.length - (k + 1))=cs[g] :: cs.drop (cs.length - k):=by
  rw [show cs.length - (k + 1)=g by omega,show cs.length - k=g + 1 by omega]; exact List.drop_eq_getElem_cons hg
 have hdl:(cs.drop (cs.length - k)).length ≤ 1000:=by simp; omega
 rw [hd] at hlt ⊢
 obtain ⟨x1,p,x2,x,z1,z2,z3,z4,z5⟩:=rf_first hdl hl' hlt
 have hpa:p ∈ allP l':=by rw [z1]; simp
 obtain ⟨w1,w2,w3,w4⟩:=wv_ok hl' hpa z2
 have hst:stL l'=x1.filterMap (stp l') ++ (p,⟨rc x.1,colr l' x.2.1,x.2.2⟩) :: x2.filterMap (stp l'):=by
  unfold stL
  rw [z1,List.filterMap_append,List.filterMap_cons]
  have:stp l' p=some (p,⟨rc x.1,colr l' x.2.1,x.2.2⟩):=by unfold stp; rw [z2.1]; rfl
  rw [this]
 obtain ⟨pg,pd,pr⟩:=pt
 simp only at h1 h2 hr
 subst h1 h2 hr
 have hvp:Vs cs ⟨(g:Int),0,rc l'⟩ (k + 1):=⟨g,rfl,rfl,h3⟩
 have tot:cst (nbx l 0) (nbx l 1) (fun p s=>f58 p (sgl cs) s) (k + 1) ⟨(g:Int),0,rc l'⟩=cL (cs[g] :: cs.drop (cs.length - k)) l':=by rw [cst_cL hlen (k + 1) hl' hB rfl hvp,hd]
 unfold f34
 refine Yes.jn (Yes.bind ?_)
 refine (Yes.mono (Q':=fun r=>r.1=1∧∃ n,LOk n∧n.Boxes=l.Boxes∧r.2.2.1.race=rc n∧Vs cs r.2.2.1 k∧KOk (nbx l 0) (nbx l 1) (sgl cs) (Vs cs) r.2.2.2∧(rf (cs[g] :: cs.drop (cs.length - k)) l').1=r.2.1 :: (rf (cs.drop (cs.length - k)) n).1∧cL (cs.drop (cs.length - k)) n < never) ?_ fun r hr=>?_)
 ·show Yes (f74 _ _ _ _ _) _
  rw [← nbx_of hB,← nbx_of hB]
  refine s98 hl' ?_
  rw [hst]
  rw [nbx_of hB,nbx_of hB]
  -- a round for a pick that weaves the colour
  have rnd : ∀ (y : BoxPick × BoxStep) (n : BoxLoom), LOk n → n.Boxes = l'.Boxes → y.2.next = rc n → 0 ≤ y.2.moves ∧ y.2.moves ≤ 6 → y.2.colour = cs[g] → ∀ (s : BoxPick × BoxPoint × List (BoxPoint × Int)) (R : Bool × (Nat × BoxPick × BoxPoint × List (BoxPoint × Int)) → Prop), KOk (nbx l 0) (nbx l 1) (sgl cs) (Vs cs) s.2.2 →
    (∀ mm,KOk (nbx l 0) (nbx l 1) (sgl cs) (Vs cs) mm→(y.2.moves + cL (cs.drop (cs.length - k)) n=cL (cs[g] :: cs.drop (cs.length - k)) l'→R (false,1,y.1,⟨((g + 1:Nat):Int),0,y.2.next⟩,mm))∧(y.2.moves + cL (cs.drop (cs.length - k)) n ≠ cL (cs[g] :: cs.drop (cs.length - k)) l'→R (true,0,s.1,s.2.1,mm))) →
    Yes ((f58 ⟨(g:Int),0,rc l'⟩ (sgl cs) y.2).bind fun j7=>Option.bind (α:=Bool × (List (BoxPoint × Int))) (bif j7.2 then (f33 big ⟨(nbx l 0:Int),(nbx l 1:Int),⟨⟩⟩ s.2.2 (sgl cs) (j7.1)).bind fun jA=>(f33 big ⟨(nbx l 0:Int),(nbx l 1:Int),⟨⟩⟩ (jA.2) (sgl cs) ⟨(g:Int),0,rc l'⟩).bind fun qA=>some (((w64 ((y.2).moves + jA.1)) == qA.1),qA.2) else some (false,s.2.2)) fun (q8,v7)=>bif q8 then some (false,((1:Nat),(y.1,j7.1,v7))) else some (true,((0:Nat),(s.1,s.2.1,v7)))) R:=fun y n hn hnB hnx hmv hcol s R hks hR=>by
   have hv1:Vs cs ⟨((g + 1:Nat):Int),0,y.2.next⟩ k:=⟨g + 1,rfl,rfl,by omega⟩
   have e1:f58 ⟨(g:Int),0,rc l'⟩ (sgl cs) y.2=some (⟨((g + 1:Nat):Int),0,y.2.next⟩,true):=by rw [s88s hg hlen,hcol]; simp
   rw [e1,Option.bind_some]
   have cr:=cL_rng (cs.drop (cs.length - k)) hn hdl
   refine Yes.bind (qtake rfl (Yes.bind ((s57 hl hV k big (Nat.lt_trans hk (by unfold big; omega)) hn (hnB.trans hB) hnx hv1 hks).mono fun a ha=>Yes.bind ((s57 hl hV (k + 1) big (Nat.lt_of_le_of_lt (by omega:k + 1 ≤ 1000) (by unfold big; omega)) hl' hB rfl hvp ha.2).mono fun b hb=>Yes.some ?_))))
   obtain ⟨a1,_⟩:=ha
   obtain ⟨b1,b2⟩:=hb
   rw [cst_cL hlen k hn (hnB.trans hB) hnx hv1] at a1
   rw [tot] at b1
   rw [a1,b1,w64_id (by unfold never at *; omega) (by unfold never at *; omega)]
   by_cases hq:y.2.moves + cL (cs.drop (cs.length - k)) n=cL (cs[g] :: cs.drop (cs.length - k)) l'
   ·exact qtake (beq_iff_eq.2 hq) (Yes.some ((hR _ b2).1 hq))
   ·exact qskip (beq_eq_false_iff_ne.2 hq) (Yes.some ((hR _ b2).2 hq))
  refine runL_first (I:=fun s=>s.1=0∧KOk (nbx l 0) (nbx l 1) (sgl cs) (Vs cs) s.2.2.2) _ _ _ _ ⟨rfl,hm⟩ (fun y hy s hs=>?_) (fun s hs=>?_)
  ·obtain ⟨q, hq, hqe⟩ := List.mem_filterMap.1 hy
   obtain ⟨t,s⟩:=s
   obtain ⟨ht,hs⟩:=hs
   simp only at ht hs
   subst ht
   rw [guardC_0]
   have hqa:q ∈ allP l':=by rw [z1]; simp [hq]
   unfold stp at hqe
   cases ho:oneL l' q with
   | none=>rw [ho] at hqe; cases hqe
   | some v=>
    rw [ho] at hqe
    cases hqe
    obtain ⟨o1,o2,_,_,o5,o6⟩:=oneL_ok hl' ((mem_allP hl').1 hqa) (show oneL l' q=some (v.1,v.2.1,v.2.2) from ho)
    by_cases hc:colr l' v.2.1=cs[g]
    ·refine rnd (q, ⟨rc v.1, colr l' v.2.1, v.2.2⟩) v.1 o1 o2 rfl ⟨o5, o6⟩ hc s _ hs fun mm hmm => ⟨fun he => ?_, fun _ => ⟨rfl, rfl, hmm⟩⟩
     have:=z5 q hq v ⟨ho,hc⟩
     have he:v.2.2 + cL (cs.drop (cs.length - k)) v.1=cL (cs[g] :: cs.drop (cs.length - k)) l':=he
     omega
    ·have e1:f58 ⟨(g:Int),0,rc l'⟩ (sgl cs) ⟨rc v.1,colr l' v.2.1,v.2.2⟩=some (⟨(g:Int),0,rc l'⟩,false):=by
      rw [s88s hg hlen,show (cs[g] == colr l' v.2.1)=false from beq_eq_false_iff_ne.2 fun h=>hc h.symm]; rfl
     show Yes ((f58 ⟨(g:Int),0,rc l'⟩ (sgl cs) ⟨rc v.1,colr l' v.2.1,v.2.2⟩).bind _) _
     rw [e1,Option.bind_some]
     exact Yes.bind (qskip rfl (Yes.some (qskip rfl (Yes.some ⟨rfl,rfl,hs⟩))))
  ·obtain ⟨t, s⟩ := s
   obtain ⟨ht,hs⟩:=hs
   simp only at ht hs
   subst ht
   rw [guardC_0]
   refine rnd (p,⟨rc x.1,colr l' x.2.1,x.2.2⟩) x.1 w1 w2 rfl ⟨w3,w4⟩ z2.2 s _ hs fun mm hmm=>⟨fun _=>⟨rfl,rfl,x.1,w1,w2.trans hB,rfl,⟨g + 1,rfl,rfl,by omega⟩,hmm,z4,by omega⟩,fun hne=>absurd z3 hne⟩
 ·obtain ⟨t, r1, r2, r3⟩ := r
  obtain ⟨ht,n,hn⟩:=hr
  simp only at ht
  subst ht
  exact qskip rfl (Yes.some ⟨n,hn⟩)
theorem s52 (xs:List Int) (h:xs.length ≤ 1000):f28 xs=some (xs.all (btw 0 9)):=by unfold f28; rw [s87 _ _ _ (by omega)]; rfl
theorem kok_nil {B0 B1:Nat} {gs:List (List Int)} {V:BoxPoint→Nat→Prop}:KOk B0 B1 gs V []:=⟨fun h=>by cases h⟩
theorem s17 {l:BoxLoom} {cs:List Int} (hl:LOk l) (h24:cs.length ≤ 24) (hc:cs.all (btw 0 9)=true):f10 l cs=some (if (rf cs l).2.2=cs.length then ((rf cs l).1,(rf cs l).2.1,0,0) else ([],0,(rf cs l).2.2,9)):=by
 have hR:=rf_ok cs (by omega) hl
 have hfar:=hR.far
 refine Yes.eq ?_
 unfold f10
 refine qbind _ (s51 l hl.sml) (Yes.jn (qskip (by rw [chk0.2 hl]; rfl) (qskip (decide_eq_false (by omega)) (qbind _ (s52 cs (by omega)) (qskip (by rw [hc]; rfl) (qbind _ (s53 cs (by omega)) (qbind _ (s54r hl) (Yes.jn ?_))))))))
 refine Yes.upto cs.length (by omega) (fun t s=>(t:Int) ≤ (rf cs l).2.2∧s=[]) ⟨hfar.1,rfl⟩ (fun t s k ht hI hk=>?_) (fun s k hI=>?_)
 ·obtain ⟨hI, rfl⟩ := hI
  have hcut:cut (sgl cs) 0 (w64 ((t:Int) + 1))=some (sgl (cs.take (t + 1))):=by
   rw [w64_id (by omega) (by omega)]
   unfold cut
   rw [if_pos ⟨by omega,by omega,by rw [sgl_len]; omega⟩,show ((t:Int) + 1).toNat=t + 1 by omega]
   simp [sgl,List.map_take]
  have hlen':(cs.take (t + 1)).length ≤ 1000:=by simp; omega
  have hv:Vs (cs.take (t + 1)) ⟨0,0,rc l⟩ (t + 1):=⟨0,rfl,rfl,by simp; omega⟩
  refine qtake (by simp; omega) (Yes.jn (qbind _ (s56 hl) (qbind _ hcut (Yes.bind ((s57 hl (pts_sgl hlen') (t + 1) big (by unfold big; omega) hl rfl rfl hv kok_nil).mono fun r hr=>?_)))))
  obtain ⟨hr,_⟩:=hr
  rw [cst_cL hlen' (t + 1) hl rfl rfl hv,show (cs.take (t + 1)).length - (t + 1)=0 by simp; omega,List.drop_zero] at hr
  have hp:=hR.pre (t + 1) (by omega)
  refine Yes.cond (fun hc=>Yes.some ?_) (fun hc=>hk _ ⟨?_,rfl⟩)
  ·have hge : r.1 ≥ never := of_decide_eq_true hc
   have:¬ ((t + 1:Nat):Int) ≤ (rf cs l).2.2:=fun h=>by have:=hp.2 h; omega
   rw [if_neg (by omega),show (rf cs l).2.2=(t:Int) by omega]
  ·have hlt : ¬ r.1 ≥ never := of_decide_eq_false hc
   exact hp.1 (by omega)
 ·obtain ⟨hI, rfl⟩ := hI
  have hall:(rf cs l).2.2=cs.length:=by omega
  have hlt:=hR.all.2 hall
  have hv:Vs cs ⟨0,0,rc l⟩ cs.length:=⟨0,rfl,rfl,by omega⟩
  rw [if_pos hall]
  refine qskip (by simp) (qbind _ (s56 hl) (Yes.bind ((s57 hl (pts_sgl (by omega)) cs.length big (by unfold big; omega) hl rfl rfl hv kok_nil).mono fun r hr=>?_)))
  obtain ⟨hr,hk⟩:=hr
  rw [cst_cL (by omega) cs.length hl rfl rfl hv,Nat.sub_self,List.drop_zero,← hR.mv hlt] at hr
  rw [hr]
  refine Yes.bind (Yes.mono (Q':=fun s=>s.1=(rf cs l).1) ?_ fun s hs=>Yes.some (by rw [hs]))
  refine Yes.lp (fun s=>∃ k n,LOk n∧n.Boxes=l.Boxes∧s.2.1.race=rc n∧Vs cs s.2.1 k∧KOk (nbx l 0) (nbx l 1) (sgl cs) (Vs cs) s.2.2∧s.1 ++ (rf (cs.drop (cs.length - k)) n).1=(rf cs l).1∧cL (cs.drop (cs.length - k)) n < never∧s.1.length + k=cs.length) (fun s=>cs.length - s.1.length) ⟨cs.length,l,hl,rfl,rfl,hv,hk,by rw [Nat.sub_self,List.drop_zero]; rfl,by rw [Nat.sub_self,List.drop_zero]; exact hlt,by simp⟩ (by simp; omega) ?_
  rintro ⟨ps,pt,m⟩ kk ⟨k,n,a1,a2,a3,a4,a5,a6,a7,a8⟩ hkk
  simp only at a3 a4 a5 a6 a8
  have hz:=(pts_sgl (cs:=cs) (by omega)).zero a4
  rw [sgl_len] at hz
  obtain ⟨g,g1,g2,g3⟩:=id a4
  refine Yes.jn (Yes.cond (fun hc2=>?_) (fun hc2=>Yes.some ?_))
  ·have hlt2 : pt.group < ((sgl cs).length : Int) := of_decide_eq_true hc2
   rw [sgl_len] at hlt2
   obtain ⟨k,rfl⟩:∃ k',k=k' + 1:=⟨k - 1,by omega⟩
   refine Yes.bind (Yes.bind ((s58 hl (by omega) (by omega) a1 a2 a3 a4 a5 a7).mono fun b hb=>Yes.bind (Yes.apnd (by simp; omega) (by simp; omega) (Yes.some ?_))))
   obtain ⟨n',b1,b2,b3,b4,b5,b6,b7⟩:=hb
   refine hkk _ ⟨k,n',b1,b2,b3,b4,b5,?_,b7,by simp; omega⟩ ?_
   ·show (ps ++ [b.1]) ++ _ = _
    rw [← a6,b6]; simp
   ·show cs.length - (ps ++ [b.1]).length < cs.length - ps.length
    simp; omega
  ·have hge : ¬ pt.group < ((sgl cs).length : Int) := of_decide_eq_false hc2
   rw [sgl_len] at hge
   have hk0:k=0:=by omega
   subst hk0
   rw [Nat.sub_zero,List.drop_length,rf,List.append_nil] at a6
   exact a6
theorem oneL_cols {l:BoxLoom} (hd:Dst l.Shuttles) {p:BoxPick} {n:BoxLoom} {i:Nat} {m:Int} (h:oneL l p=some (n,i,m)) (t:List Nat):t.map (colr n)=t.map (colr l):=List.map_congr_left fun j _=>oneL_colr hd h j
theorem rf_plan : ∀ (cs : List Int) {l : BoxLoom}, cs.length ≤ 1000 → LOk l → cL cs l < never → (∃ n, thr l (rf cs l).1 = some n) ∧ (∀ p ∈ (rf cs l).1, okP l.Boxes p = true) ∧ (thl l (rf cs l).1).map (colr l) = cs ∧ mvt l (rf cs l).1 = cL cs l
 | [],l,_,_,_=>by rw [rf,cL]; exact ⟨⟨l,by rw [thr]⟩,by simp,by rw [thl]; rfl,by rw [mvt]⟩
 | c :: cs,l,hlen,hl,hlt=>by
  simp only [List.length_cons] at hlen
  obtain ⟨x1,p,x2,x,z1,z2,z3,z4,_⟩:=rf_first (by omega) hl hlt
  have hpa:p ∈ allP l:=by rw [z1]; simp
  obtain ⟨w1,w2,w3,w4⟩:=wv_ok hl hpa z2
  obtain ⟨⟨n,i1⟩,i2,i3,i4⟩:=rf_plan cs (by omega) w1 (by omega)
  have ho:oneL l p=some (x.1,x.2.1,x.2.2):=z2.1
  rw [z4]
  refine ⟨⟨n,by rw [thr_cons,ho]; exact i1⟩,fun q hq=>?_,?_,?_⟩
  ·rcases List.mem_cons.1 hq with rfl | hq
   ·exact (mem_allP hl).1 hpa
   ·rw [← w2]; exact i2 q hq
  ·rw [thl, ho]
   show (x.2.1 :: thl x.1 (rf cs x.1).1).map (colr l)=_
   rw [List.map_cons,← oneL_cols hl.dst ho,i3,z2.2]
  ·rw [mvt, ho]
   show x.2.2 + mvt x.1 (rf cs x.1).1=_
   rw [i4,z3]
theorem s17p {l:BoxLoom} {cs:List Int} (hl:LOk l) (h24:cs.length ≤ 24) (hc:cs.all (btw 0 9)=true) (hlt:cL cs l < never):f10 l cs=some ((rf cs l).1,cL cs l,0,0):=by
 have hR:=rf_ok cs (by omega) hl
 rw [s17 hl h24 hc,if_pos (hR.all.1 hlt),hR.mv hlt]
end Go.Proofs.YtkfdjkkbnfohjaaGreat
