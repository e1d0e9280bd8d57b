/- BoxThrows. -/
import Derived.Test.YtmpjooneiaiffaaLawT
set_option maxRecDepth 8000
namespace Go.Proofs.Ytmpjooneiaiffaa
open Go.RowKit
open Classical

end Go.Proofs.Ytmpjooneiaiffaa
/- Plain laws: the fewest box moves from a point on, with what is known of them. -/
set_option maxRecDepth 8000
namespace Go.Proofs.Ytmpjooneiaiffaa
open Go.RowKit
open Classical

def Ti:Int:=1073741824
theorem Rw {σ α : Type} {cons : Di σ α} {Q : σ → Prop} : ∀ (xs : List α) (I : Nat → σ → Prop) (s0 : σ), I 0 s0 → (∀ i (h : i < xs.length) s, I i s → Yes (cons s xs[i]) (fun r => r.1 = true ∧ I (i + 1) r.2)) → (∀ s, I xs.length s → Q s) → Yes (Bh cons xs s0) Q
 | [],I,s0,h0,_,he=>Yes.some (he s0 h0)
 | x :: xs,I,s0,h0,hb,he=>by
  rw [Bh]
  obtain ⟨r,hr,h1,h2⟩:=hb 0 (by simp) s0 h0
  rw [List.getElem_cons_zero] at hr
  rw [hr,Option.bind_some,h1]
  exact Rw xs (fun i=>I (i + 1)) r.2 h2 (fun i h s hI=>hb (i + 1) (by simpa using h) s hI) (fun s hI=>he s hI)
noncomputable def Pn (A:Gd→Tc→Option (Gd × Bool)) (F:Gd→Int) (pt:Gd) (b:Int) (s:Gf × Tc):Int:=match A pt s.2 with | some (to,true)=>min b (s.2.moves + F to) | _=>b
noncomputable def pkR (B0 B1:Nat) (r:Gu):List (Gf × Tc):=(pkL B0 B1).filterMap fun p=>match f97 r p with | some (n,t,m)=>if t > 0 then some (p,⟨n,t - 1,m⟩) else none | none=>none
theorem Lv {α β : Type} {f g : α → Option β} : ∀ (xs : List α), (∀ x ∈ xs, f x = g x) → xs.filterMap f = xs.filterMap g
 | [],_=>rfl
 | x :: xs,h=>by rw [List.filterMap_cons,List.filterMap_cons,h x (by simp),Lv xs fun y hy=>h y (by simp [hy])]
theorem Ro {l:BoxLoom} (hl:LOk l):pkR (nbx l 0) (nbx l 1) (rc l)=stL l:=by
 unfold pkR stL
 refine Lv _ fun p hp=>?_
 have hok:=(Ys hl).1 hp
 rw [rc_p hl hok]
 unfold stp
 cases ho:Ka l p with
 | none=>simp
 | some x=>
  obtain ⟨n,i,m⟩:=x
  have:=Bg hl i
  show (if Qy l i + 1 > 0 then some (p,(⟨rc n,Qy l i + 1 - 1,m⟩:Tc)) else none)=some (p,⟨rc n,Qy l i,m⟩)
  rw [if_pos (by omega),show Qy l i + 1 - 1=Qy l i by omega]
noncomputable def cst (B0 B1 : Nat) (A : Gd → Tc → Option (Gd × Bool)) : Nat → Gd → Int
 | 0,_=>0
 | k + 1,pt=>(pkR B0 B1 pt.race).foldl (Pn A (cst B0 B1 A k) pt) Ti
structure Pts (gs : List (List Int)) (V : Gd → Nat → Prop) : Prop where
 zero:∀ {pt k},V pt k→(pt.group=(gs.length:Int) ↔ k=0)
 one:∀ {pt k k'},V pt k→V pt k'→k=k'
 step:∀ {pt k} (s:Tc),V pt (k + 1)→∃ to b,f88 pt gs s=some (to,b)∧(b=true→to.race=s.next∧V to k)
structure KOk (B0 B1 : Nat) (gs : List (List Int)) (V : Gd → Nat → Prop) (m : List (Gd × Int)) : Prop where
 ok:∀ {pt v k},Jf m pt=some v→V pt k→v=cst B0 B1 (fun p s=>f88 p gs s) k pt
theorem mgetm {κ ν : Type} [DecidableEq κ] (k : κ) (v : ν) (k' : κ) : ∀ m : List (κ × ν), Jf (Hg m k v) k' = if k' = k then some v else Jf m k'
 | []=>by
  unfold Hg Jf
  by_cases h:k'=k
  ·subst h; simp
  ·have : ¬ k = k' := fun e => h e.symm
   simp [h,this]
 | p :: m=>by
  have ih:=mgetm k v k' m
  unfold Hg
  by_cases hp:p.1=k
  ·rw [if_pos hp]
   by_cases h:k'=k
   ·subst h; unfold Jf; simp
   ·have h1 : ¬ k = k' := fun e => h e.symm
    have h2:¬ p.1=k':=fun e=>h (e ▸ hp ▸ rfl)
    rw [if_neg h]; unfold Jf; simp [h1,h2]
  ·rw [if_neg hp]
   by_cases h2:p.1=k'
   ·have h : ¬ k' = k := fun e => hp (h2.trans e)
    rw [if_neg h]; unfold Jf; simp [h2]
   ·unfold Jf at ih ⊢
    rw [List.find?_cons_of_neg (by simp [h2]),List.find?_cons_of_neg (by simp [h2])]
    exact ih
theorem Ni {l:BoxLoom} (hl:LOk l) {x:Gf × Tc} (h:x ∈ stL l):∃ n i,Ka l x.1=some (n,i,x.2.moves)∧okP l.Boxes x.1=true∧LOk n∧n.Boxes=l.Boxes∧x.2.next=rc n∧x.2.colour=Qy l i∧0 ≤ x.2.moves∧x.2.moves ≤ 6:=by
 unfold stL at h
 obtain ⟨p,hp,he⟩:=List.mem_filterMap.1 h
 have hok:=(Ys hl).1 hp
 unfold stp at he
 cases ho:Ka l p with
 | none=>rw [ho] at he; cases he
 | some y=>
  obtain ⟨n,i,m⟩:=y
  rw [ho] at he
  cases he
  obtain ⟨h1,h2,_,_,h5,h6⟩:=Ja hl hok ho
  exact ⟨n,i,ho,hok,h1,h2,rfl,rfl,h5,h6⟩
theorem Kt {l n:BoxLoom} (h:n.Boxes=l.Boxes) (s:Nat):nbx n s=nbx l s:=by unfold nbx; rw [h]
theorem Bv {l : BoxLoom} (hl : LOk l) {gs : List (List Int)} {V : Gd → Nat → Prop} (hV : Pts gs V) : ∀ (k : Nat) {l' : BoxLoom} {pt : Gd}, LOk l' → l'.Boxes = l.Boxes → pt.race = rc l' → V pt k →
  0 ≤ cst (nbx l 0) (nbx l 1) (fun p s=>f88 p gs s) k pt∧cst (nbx l 0) (nbx l 1) (fun p s=>f88 p gs s) k pt ≤ Ti
 | 0,_,_,_,_,_,_=>by rw [cst]; unfold Ti; omega
 | k + 1,l',pt,hl',hB,hr,hv=>by
  rw [cst,hr,← Kt hB,← Kt hB,Ro hl']
  have key:∀ (xs:List (Gf × Tc)) (b:Int),(∀ x ∈ xs,x ∈ stL l')→0 ≤ b∧b ≤ Ti→0 ≤ xs.foldl (Pn (fun p s=>f88 p gs s) (cst (nbx l' 0) (nbx l' 1) (fun p s=>f88 p gs s) k) pt) b∧xs.foldl (Pn (fun p s=>f88 p gs s) (cst (nbx l' 0) (nbx l' 1) (fun p s=>f88 p gs s) k) pt) b ≤ Ti:=fun xs=>by
   induction xs with
   | nil=>intro b _ hb; exact hb
   | cons x xs ih=>
    intro b hm hb
    rw [List.foldl_cons]
    refine ih _ (fun y hy=>hm y (by simp [hy])) ?_
    obtain ⟨n,i,_,_,h3,h4,h5,_,h7,h8⟩:=Ni hl' (hm x (by simp))
    obtain ⟨to,bb,e1,e2⟩:=hV.step x.2 hv
    unfold Pn
    simp only [e1]
    cases bb with
    | false=>exact hb
    | true=>
     obtain ⟨e3,e4⟩:=e2 rfl
     have:=Bv hl hV k h3 (h4.trans hB) (e3.trans h5) e4
     rw [← Kt hB,← Kt hB] at this
     simp only
     omega
  exact key _ _ (fun x hx=>hx) (by unfold Ti; omega)
theorem s57 {l : BoxLoom} (hl : LOk l) {gs : List (List Int)} {V : Gd → Nat → Prop} (hV : Pts gs V) : ∀ (k : Nat) {l' : BoxLoom} {pt : Gd} {m : List (Gd × Int)} (n : Nat), k < n → LOk l' → l'.Boxes = l.Boxes → pt.race = rc l' → V pt k → KOk (nbx l 0) (nbx l 1) gs V m →
  Yes (f57 n ⟨(nbx l 0:Int),(nbx l 1:Int),⟨⟩⟩ m gs pt) (fun r=>r.1=cst (nbx l 0) (nbx l 1) (fun p s=>f88 p gs s) k pt∧KOk (nbx l 0) (nbx l 1) gs V r.2)
 | k,_,_,_,0,hk,_,_,_,_,_=>absurd hk (Nat.not_lt_zero _)
 | 0,l',pt,m,n + 1,hk,hl',hB,hr,hv,hm=>by
  rw [f57]
  exact Yes.jn (Qr (beq_iff_eq.2 ((hV.zero hv).2 rfl)) (Yes.some ⟨by rw [cst],hm⟩))
 | k + 1,l',pt,m,n + 1,hk,hl',hB,hr,hv,hm=>by
  rw [f57]
  refine Yes.jn (Tw (beq_eq_false_iff_ne.2 fun h=>absurd ((hV.zero hv).1 h) (by omega)) (Yes.jn (Yes.cond (fun hc=>?_) (fun hc=>?_))))
  ·obtain ⟨v, hv'⟩ := Option.isSome_iff_exists.1 hc
   refine Yes.some ⟨?_,hm⟩
   rw [hv']; exact hm.ok hv' hv
  ·refine Yes.bind ?_
   refine Yes.bind ?_
   show Yes (f98 _ _ _ _ _) _
   rw [hr,← Kt hB,← Kt hB]
   refine s98 hl' (Rw (stL l') (fun i s=>s.1=((stL l').take i).foldl (Pn (fun p s=>f88 p gs s) (cst (nbx l' 0) (nbx l' 1) (fun p s=>f88 p gs s) k) pt) Ti∧0 ≤ s.1∧s.1 ≤ Ti∧KOk (nbx l' 0) (nbx l' 1) gs V s.2) _ ⟨rfl,by show (0:Int) ≤ 1073741824; omega,by show (1073741824:Int) ≤ 1073741824; omega,by rw [Kt hB,Kt hB]; exact hm⟩ (fun i h s hI=>?_) (fun s hI=>?_))
   ·obtain ⟨b, mm⟩ := s
    obtain ⟨i1,i2,i3,i4⟩:=hI
    simp only at i1 i2 i3 i4
    obtain ⟨nl,c,_,_,h3,h4,h5,_,h7,h8⟩:=Ni hl' (List.getElem_mem h)
    obtain ⟨to,bb,e1,e2⟩:=hV.step (stL l')[i].2 hv
    rw [Kl h,List.foldl_append,← i1]
    show Yes ((f88 pt gs (stL l')[i].2).bind _) _
    rw [e1,Option.bind_some]
    have hs:Pn (fun p s=>f88 p gs s) (cst (nbx l' 0) (nbx l' 1) (fun p s=>f88 p gs s) k) pt b (stL l')[i]=bif bb then min b ((stL l')[i].2.moves + cst (nbx l' 0) (nbx l' 1) (fun p s=>f88 p gs s) k to) else b:=by
     unfold Pn; simp only [e1]; cases bb <;> rfl
    rw [List.foldl_cons,List.foldl_nil,hs]
    cases bb with
    | false=>exact Tw rfl (Yes.some ⟨rfl,rfl,i2,i3,i4⟩)
    | true=>
     obtain ⟨e3,e4⟩:=e2 rfl
     have rg:=Bv hl' hV k h3 h4 (e3.trans h5) e4
     refine Qr rfl (Yes.bind ((s57 hl' hV k n (by omega) h3 h4 (e3.trans h5) e4 i4).mono fun r hr'=>Yes.some ?_))
     obtain ⟨g1,g2⟩:=hr'
     have hw:w64 ((stL l')[i].2.moves + cst (nbx l' 0) (nbx l' 1) (fun p s=>f88 p gs s) k to)=(stL l')[i].2.moves + cst (nbx l' 0) (nbx l' 1) (fun p s=>f88 p gs s) k to:=Tl (by omega) (by unfold Ti at rg; omega)
     have hfin:Wm b (w64 ((stL l')[i].2.moves + r.1))=min b ((stL l')[i].2.moves + cst (nbx l' 0) (nbx l' 1) (fun p s=>f88 p gs s) k to):=by rw [g1,hw,Sq]
     exact ⟨rfl,hfin,by show 0 ≤ Wm b (w64 ((stL l')[i].2.moves + r.1)); rw [hfin]; omega,by show Wm b (w64 ((stL l')[i].2.moves + r.1)) ≤ Ti; rw [hfin]; omega,g2⟩
   ·obtain ⟨i1, i2, i3, i4⟩ := hI
    rw [List.take_length] at i1
    have he:s.1=cst (nbx l' 0) (nbx l' 1) (fun p s=>f88 p gs s) (k + 1) pt:=by rw [i1,cst,hr,Ro hl']
    refine Yes.some (Yes.some ⟨he,⟨fun {p v k'} hg hv'=>?_⟩⟩)
    rw [mgetm] at hg
    split at hg
    ·rename_i hp; subst hp
     cases hg
     rw [hV.one hv' hv]; exact he
    ·exact i4.ok hg hv'
end Go.Proofs.Ytmpjooneiaiffaa
