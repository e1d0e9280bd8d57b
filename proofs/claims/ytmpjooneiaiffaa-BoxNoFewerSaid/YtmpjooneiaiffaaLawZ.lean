/- Plain laws: all picks, one after the other; the colours that the next pick can have. -/
import Derived.Test.YtmpjooneiaiffaaLawS
set_option maxRecDepth 8000
namespace Go.Proofs.Ytmpjooneiaiffaa
open Go.RowKit
open Classical

def row (B1:Nat) (i:Nat):List BoxPick:=(List.range B1).map fun k:Nat=>⟨(i:Int),(k:Int)⟩
def pkL (B0 B1:Nat):List BoxPick:=(List.range B0).flatMap (row B1)
def nbx (l:BoxLoom) (s:Nat):Nat:=(l.Boxes.getD s 0).toNat
def allP (l:BoxLoom):List BoxPick:=pkL (nbx l 0) (nbx l 1)
theorem nbx_eq {l:BoxLoom} (hl:LOk l) {s:Nat} (hs:s < 2):l.Boxes.getD s 0=(nbx l s:Int)∧1 ≤ nbx l s∧nbx l s ≤ 4:=by
 have:=hl.box hs; unfold nbx; omega
theorem mem_pkL {B0 B1:Nat} {p:BoxPick}:p ∈ pkL B0 B1 ↔ ∃ i k,i < B0∧k < B1∧p=⟨(i:Int),(k:Int)⟩:=by
 unfold pkL row
 simp only [List.mem_flatMap,List.mem_range,List.mem_map]
 constructor
 ·rintro ⟨i,hi,k,hk,rfl⟩; exact ⟨i,k,hi,hk,rfl⟩
 ·rintro ⟨i,k,hi,hk,rfl⟩; exact ⟨i,hi,k,hk,rfl⟩
theorem okP_nat {l:BoxLoom} (hl:LOk l) {i k:Nat} (hi:i < nbx l 0) (hk:k < nbx l 1):okP l.Boxes ⟨(i:Int),(k:Int)⟩=true:=by
 have h0:=nbx_eq hl (s:=0) (by omega)
 have h1:=nbx_eq hl (s:=1) (by omega)
 refine okP_iff.2 ⟨⟨?_,?_⟩,?_,?_⟩
 ·show (0:Int) ≤ (i:Int); omega
 ·show (i:Int) ≤ _; rw [h0.1]; omega
 ·show (0:Int) ≤ (k:Int); omega
 ·show (k:Int) ≤ _; rw [h1.1]; omega
theorem mem_allP {l:BoxLoom} (hl:LOk l) {p:BoxPick}:p ∈ allP l ↔ okP l.Boxes p=true:=by
 have h0:=nbx_eq hl (s:=0) (by omega)
 have h1:=nbx_eq hl (s:=1) (by omega)
 unfold allP
 rw [mem_pkL]
 constructor
 ·rintro ⟨i, k, hi, hk, rfl⟩
  exact okP_nat hl hi hk
 ·intro h
  have:=okP_iff.1 h
  obtain ⟨L,R⟩:=p
  simp only at this
  refine ⟨L.toNat,R.toNat,by omega,by omega,?_⟩
  rw [Int.toNat_of_nonneg this.1.1,Int.toNat_of_nonneg this.2.1]
/-! ### The race of a loom -/
noncomputable def rc (l:BoxLoom):BoxRace:=⟨Vector.ofFn fun s=>Vector.ofFn fun b=>cx l (s:Nat) (b:Nat),⟨l.At.getD 0 0,l.At.getD 1 0⟩⟩
theorem rc_rel (l:BoxLoom):RelC (rc l) l:=⟨fun s b hs hb=>by simp [rc],rfl⟩
theorem rc_p {l:BoxLoom} (hl:LOk l) {p:BoxPick} (hp:okP l.Boxes p=true):f97 (rc l) p=some (match oneL l p with | some (n,i,m)=>(rc n,colr l i + 1,m) | none=>(rc l,0,0)):=by
 obtain ⟨x,hx,h⟩:=s97c (rc_rel l) hl hp
 rw [hx]
 cases ho:oneL l p with
 | none=>rw [ho] at h; have h:x=(rc l,0,0):=h; rw [h]
 | some y=>
  obtain ⟨n,i,m⟩:=y
  rw [ho] at h
  obtain ⟨h1,h2,h3⟩:=h
  obtain ⟨x1,x2,x3⟩:=x
  simp only at h1 h2 h3
  rw [h1.one (rc_rel n),h2,h3]
theorem s54r {l:BoxLoom} (hl:LOk l):f54 ⟨l⟩ (fun a0 a1=>f55 a0 a1)=some (rc l):=by
 obtain ⟨x,hx,h⟩:=s54c hl
 rw [hx,h.one (rc_rel l)]
theorem s56 {l:BoxLoom} (hl:LOk l):f56 ⟨l⟩=some ⟨(nbx l 0:Int),(nbx l 1:Int),⟨⟩⟩:=by
 have i0:idx l.Boxes (0:Int)=some (nbx l 0:Int):=(box_at hl.len (i:=0) (by omega)).trans (by rw [(nbx_eq hl (s:=0) (by omega)).1])
 have i1:idx l.Boxes (1:Int)=some (nbx l 1:Int):=(box_at hl.len (i:=1) (by omega)).trans (by rw [(nbx_eq hl (s:=1) (by omega)).1])
 unfold f56
 show ((idx l.Boxes 0).bind _)=_
 rw [i0,Option.bind_some]
 show ((idx l.Boxes 1).bind _)=_
 rw [i1,Option.bind_some]
/-! ### Going through picks -/
def runL {σ α : Type} (cons : Cons σ α) : List α → σ → Option σ
 | [],s=>some s
 | x :: xs,s=>(cons s x).bind fun r=>bif r.1 then runL cons xs r.2 else some r.2
theorem runL_cons {σ α:Type} {cons:Cons σ α} {x:α} {xs:List α} {s:σ} {Q:σ→Prop} (h:Yes (runL cons (x :: xs) s) Q):∃ b s',cons s x=some (b,s')∧(b=true→Yes (runL cons xs s') Q)∧(b=false→Q s'):=by
 obtain ⟨r,hr,hq⟩:=h
 rw [runL] at hr
 cases hc:cons s x with
 | none=>rw [hc] at hr; cases hr
 | some y=>
  obtain ⟨b,s'⟩:=y
  rw [hc,Option.bind_some] at hr
  refine ⟨b,s',rfl,fun hb=>?_,fun hb=>?_⟩
  ·subst hb; exact ⟨r,hr,hq⟩
  ·subst hb; cases hr; exact hq
noncomputable def stp (l:BoxLoom) (p:BoxPick):Option (BoxPick × BoxStep):=(oneL l p).map fun x=>(p,⟨rc x.1,colr l x.2.1,x.2.2⟩)
noncomputable def stL (l:BoxLoom):List (BoxPick × BoxStep):=(allP l).filterMap (stp l)
theorem rng_drop {n i:Nat} (h:i < n):List.range' i (n - i)=i :: List.range' (i + 1) (n - (i + 1)):=by
 rw [show n - i=(n - (i + 1)) + 1 by omega,List.range'_succ]
theorem s98 {l:BoxLoom} (hl:LOk l) {σ:Type} {cons:Cons σ (BoxPick × BoxStep)} {s0:σ} {Q:σ→Prop} (h:Yes (runL cons (stL l) s0) Q):Yes (f98 ⟨⟨(nbx l 0:Int),(nbx l 1:Int),⟨⟩⟩⟩ (rc l) σ cons s0) Q:=by
 obtain ⟨_,a0,b0⟩:=nbx_eq hl (s:=0) (by omega)
 obtain ⟨_,a1,b1⟩:=nbx_eq hl (s:=1) (by omega)
 unfold f98
 refine Yes.upto (nbx l 0) (by omega) (fun i s=>Yes (runL cons (((List.range' i (nbx l 0 - i)).flatMap (row (nbx l 1))).filterMap (stp l)) s) Q) ?_ (fun i s k hi hI hk=>?_) (fun s k hI=>?_)
 ·rw [Nat.sub_zero,← List.range_eq_range']; exact h
 ·refine qtake (by simp; omega) (Yes.jn ?_)
  rw [rng_drop hi,List.flatMap_cons,List.filterMap_append] at hI
  refine Yes.upto (nbx l 1) (by omega) (fun j t=>Yes (runL cons ((((List.range' j (nbx l 1 - j)).map fun k:Nat=>(⟨(i:Int),(k:Int)⟩:BoxPick)).filterMap (stp l)) ++ ((List.range' (i + 1) (nbx l 0 - (i + 1))).flatMap (row (nbx l 1))).filterMap (stp l)) t) Q) ?_ (fun j t k2 hj hJ hk2=>?_) (fun t k2 hJ=>?_)
  ·rw [Nat.sub_zero,← List.range_eq_range']; exact hI
  ·rw [rng_drop hj, List.map_cons, List.filterMap_cons] at hJ
   refine qtake (by simp; omega) (Yes.jn (qbind _ (rc_p hl (okP_nat hl hi hj)) ?_))
   cases ho:oneL l ⟨(i:Int),(j:Int)⟩ with
   | none=>
    have hs:stp l ⟨(i:Int),(j:Int)⟩=none:=by unfold stp; rw [ho]; rfl
    rw [hs] at hJ
    exact Yes.bind (qskip rfl (Yes.some (qskip rfl (hk2 _ hJ))))
   | some y=>
    obtain ⟨n,c,m⟩:=y
    have hs:stp l ⟨(i:Int),(j:Int)⟩=some (⟨(i:Int),(j:Int)⟩,⟨rc n,colr l c,m⟩):=by unfold stp; rw [ho]; rfl
    rw [hs,List.cons_append] at hJ
    obtain ⟨b,s',h1,h2,h3⟩:=runL_cons hJ
    have hcl:=colr_nn hl c
    refine Yes.bind (qtake (decide_eq_true (by show colr l c + 1 > 0; omega)) ?_)
    show Yes (Option.bind (cons t (⟨(i:Int),(j:Int)⟩,⟨rc n,w64 (colr l c + 1 - 1),m⟩)) _) _
    rw [show w64 (colr l c + 1 - 1)=colr l c by rw [w64_id (by omega) (by omega)]; omega,h1,Option.bind_some]
    refine Yes.some ?_
    cases b with
    | true=>exact qskip rfl (hk2 _ (h2 rfl))
    | false=>exact qtake rfl (Yes.some (h3 rfl))
  ·refine qskip (by simp) (hk _ ?_)
   simpa using hJ
 ·refine qskip (by simp) ?_
  simpa [runL] using hI
/-! ### The colours that the next pick can have -/
end Go.Proofs.Ytmpjooneiaiffaa
/- BoxThrows. -/
set_option maxRecDepth 8000
namespace Go.Proofs.Ytmpjooneiaiffaa
open Go.RowKit
open Classical

end Go.Proofs.Ytmpjooneiaiffaa
/- Plain laws: the fewest box moves from a point on, with what is known of them. -/
set_option maxRecDepth 8000
namespace Go.Proofs.Ytmpjooneiaiffaa
open Go.RowKit
open Classical

def never:Int:=1073741824
theorem runL_upto {σ α : Type} {cons : Cons σ α} {Q : σ → Prop} : ∀ (xs : List α) (I : Nat → σ → Prop) (s0 : σ), I 0 s0 → (∀ i (h : i < xs.length) s, I i s → Yes (cons s xs[i]) (fun r => r.1 = true ∧ I (i + 1) r.2)) → (∀ s, I xs.length s → Q s) → Yes (runL cons xs s0) Q
 | [],I,s0,h0,_,he=>Yes.some (he s0 h0)
 | x :: xs,I,s0,h0,hb,he=>by
  rw [runL]
  obtain ⟨r,hr,h1,h2⟩:=hb 0 (by simp) s0 h0
  rw [List.getElem_cons_zero] at hr
  rw [hr,Option.bind_some,h1]
  exact runL_upto xs (fun i=>I (i + 1)) r.2 h2 (fun i h s hI=>hb (i + 1) (by simpa using h) s hI) (fun s hI=>he s hI)
noncomputable def cstS (A:BoxPoint→BoxStep→Option (BoxPoint × Bool)) (F:BoxPoint→Int) (pt:BoxPoint) (b:Int) (s:BoxPick × BoxStep):Int:=match A pt s.2 with | some (to,true)=>min b (s.2.moves + F to) | _=>b
noncomputable def pkR (B0 B1:Nat) (r:BoxRace):List (BoxPick × BoxStep):=(pkL B0 B1).filterMap fun p=>match f97 r p with | some (n,t,m)=>if t > 0 then some (p,⟨n,t - 1,m⟩) else none | none=>none
theorem fmap_congr {α β : Type} {f g : α → Option β} : ∀ (xs : List α), (∀ x ∈ xs, f x = g x) → xs.filterMap f = xs.filterMap g
 | [],_=>rfl
 | x :: xs,h=>by rw [List.filterMap_cons,List.filterMap_cons,h x (by simp),fmap_congr xs fun y hy=>h y (by simp [hy])]
theorem pkR_rc {l:BoxLoom} (hl:LOk l):pkR (nbx l 0) (nbx l 1) (rc l)=stL l:=by
 unfold pkR stL
 refine fmap_congr _ fun p hp=>?_
 have hok:=(mem_allP hl).1 hp
 rw [rc_p hl hok]
 unfold stp
 cases ho:oneL l p with
 | none=>simp
 | some x=>
  obtain ⟨n,i,m⟩:=x
  have:=colr_nn hl i
  show (if colr l i + 1 > 0 then some (p,(⟨rc n,colr l i + 1 - 1,m⟩:BoxStep)) else none)=some (p,⟨rc n,colr l i,m⟩)
  rw [if_pos (by omega),show colr l i + 1 - 1=colr l i by omega]
noncomputable def cst (B0 B1 : Nat) (A : BoxPoint → BoxStep → Option (BoxPoint × Bool)) : Nat → BoxPoint → Int
 | 0,_=>0
 | k + 1,pt=>(pkR B0 B1 pt.race).foldl (cstS A (cst B0 B1 A k) pt) never
structure Pts (gs : List (List Int)) (V : BoxPoint → Nat → Prop) : Prop where
 zero:∀ {pt k},V pt k→(pt.group=(gs.length:Int) ↔ k=0)
 one:∀ {pt k k'},V pt k→V pt k'→k=k'
 step:∀ {pt k} (s:BoxStep),V pt (k + 1)→∃ to b,f88 pt gs s=some (to,b)∧(b=true→to.race=s.next∧V to k)
structure KOk (B0 B1 : Nat) (gs : List (List Int)) (V : BoxPoint → Nat → Prop) (m : List (BoxPoint × Int)) : Prop where
 ok:∀ {pt v k},mget m pt=some v→V pt k→v=cst B0 B1 (fun p s=>f88 p gs s) k pt
theorem mgetm {κ ν : Type} [DecidableEq κ] (k : κ) (v : ν) (k' : κ) : ∀ m : List (κ × ν), mget (mset m k v) k' = if k' = k then some v else mget m k'
 | []=>by
  unfold mset mget
  by_cases h:k'=k
  ·subst h; simp
  ·have : ¬ k = k' := fun e => h e.symm
   simp [h,this]
 | p :: m=>by
  have ih:=mgetm k v k' m
  unfold mset
  by_cases hp:p.1=k
  ·rw [if_pos hp]
   by_cases h:k'=k
   ·subst h; unfold mget; simp
   ·have h1 : ¬ k = k' := fun e => h e.symm
    have h2:¬ p.1=k':=fun e=>h (e ▸ hp ▸ rfl)
    rw [if_neg h]; unfold mget; simp [h1,h2]
  ·rw [if_neg hp]
   by_cases h2:p.1=k'
   ·have h : ¬ k' = k := fun e => hp (h2.trans e)
    rw [if_neg h]; unfold mget; simp [h2]
   ·unfold mget at ih ⊢
    rw [List.find?_cons_of_neg (by simp [h2]),List.find?_cons_of_neg (by simp [h2])]
    exact ih
theorem stL_mem {l:BoxLoom} (hl:LOk l) {x:BoxPick × BoxStep} (h:x ∈ stL l):∃ n i,oneL l x.1=some (n,i,x.2.moves)∧okP l.Boxes x.1=true∧LOk n∧n.Boxes=l.Boxes∧x.2.next=rc n∧x.2.colour=colr l i∧0 ≤ x.2.moves∧x.2.moves ≤ 6:=by
 unfold stL at h
 obtain ⟨p,hp,he⟩:=List.mem_filterMap.1 h
 have hok:=(mem_allP hl).1 hp
 unfold stp at he
 cases ho:oneL l p with
 | none=>rw [ho] at he; cases he
 | some y=>
  obtain ⟨n,i,m⟩:=y
  rw [ho] at he
  cases he
  obtain ⟨h1,h2,_,_,h5,h6⟩:=oneL_ok hl hok ho
  exact ⟨n,i,ho,hok,h1,h2,rfl,rfl,h5,h6⟩
theorem nbx_of {l n:BoxLoom} (h:n.Boxes=l.Boxes) (s:Nat):nbx n s=nbx l s:=by unfold nbx; rw [h]
theorem cst_rng {l : BoxLoom} (hl : LOk l) {gs : List (List Int)} {V : BoxPoint → Nat → Prop} (hV : Pts gs V) : ∀ (k : Nat) {l' : BoxLoom} {pt : BoxPoint}, LOk l' → l'.Boxes = l.Boxes → pt.race = rc l' → V pt k →
  0 ≤ cst (nbx l 0) (nbx l 1) (fun p s=>f88 p gs s) k pt∧cst (nbx l 0) (nbx l 1) (fun p s=>f88 p gs s) k pt ≤ never
 | 0,_,_,_,_,_,_=>by rw [cst]; unfold never; omega
 | k + 1,l',pt,hl',hB,hr,hv=>by
  rw [cst,hr,← nbx_of hB,← nbx_of hB,pkR_rc hl']
  have key:∀ (xs:List (BoxPick × BoxStep)) (b:Int),(∀ x ∈ xs,x ∈ stL l')→0 ≤ b∧b ≤ never→0 ≤ xs.foldl (cstS (fun p s=>f88 p gs s) (cst (nbx l' 0) (nbx l' 1) (fun p s=>f88 p gs s) k) pt) b∧xs.foldl (cstS (fun p s=>f88 p gs s) (cst (nbx l' 0) (nbx l' 1) (fun p s=>f88 p gs s) k) pt) b ≤ never:=fun xs=>by
   induction xs with
   | nil=>intro b _ hb; exact hb
   | cons x xs ih=>
    intro b hm hb
    rw [List.foldl_cons]
    refine ih _ (fun y hy=>hm y (by simp [hy])) ?_
    obtain ⟨n,i,_,_,h3,h4,h5,_,h7,h8⟩:=stL_mem hl' (hm x (by simp))
    obtain ⟨to,bb,e1,e2⟩:=hV.step x.2 hv
    unfold cstS
    simp only [e1]
    cases bb with
    | false=>exact hb
    | true=>
     obtain ⟨e3,e4⟩:=e2 rfl
     have:=cst_rng hl hV k h3 (h4.trans hB) (e3.trans h5) e4
     rw [← nbx_of hB,← nbx_of hB] at this
     simp only
     omega
  exact key _ _ (fun x hx=>hx) (by unfold never; omega)
theorem s57 {l : BoxLoom} (hl : LOk l) {gs : List (List Int)} {V : BoxPoint → Nat → Prop} (hV : Pts gs V) : ∀ (k : Nat) {l' : BoxLoom} {pt : BoxPoint} {m : List (BoxPoint × Int)} (n : Nat), k < n → LOk l' → l'.Boxes = l.Boxes → pt.race = rc l' → V pt k → KOk (nbx l 0) (nbx l 1) gs V m →
  Yes (f57 n ⟨(nbx l 0:Int),(nbx l 1:Int),⟨⟩⟩ m gs pt) (fun r=>r.1=cst (nbx l 0) (nbx l 1) (fun p s=>f88 p gs s) k pt∧KOk (nbx l 0) (nbx l 1) gs V r.2)
 | k,_,_,_,0,hk,_,_,_,_,_=>absurd hk (Nat.not_lt_zero _)
 | 0,l',pt,m,n + 1,hk,hl',hB,hr,hv,hm=>by
  rw [f57]
  exact Yes.jn (qtake (beq_iff_eq.2 ((hV.zero hv).2 rfl)) (Yes.some ⟨by rw [cst],hm⟩))
 | k + 1,l',pt,m,n + 1,hk,hl',hB,hr,hv,hm=>by
  rw [f57]
  refine Yes.jn (qskip (beq_eq_false_iff_ne.2 fun h=>absurd ((hV.zero hv).1 h) (by omega)) (Yes.jn (Yes.cond (fun hc=>?_) (fun hc=>?_))))
  ·obtain ⟨v, hv'⟩ := Option.isSome_iff_exists.1 hc
   refine Yes.some ⟨?_,hm⟩
   rw [hv']; exact hm.ok hv' hv
  ·refine Yes.bind ?_
   refine Yes.bind ?_
   show Yes (f98 _ _ _ _ _) _
   rw [hr,← nbx_of hB,← nbx_of hB]
   refine s98 hl' (runL_upto (stL l') (fun i s=>s.1=((stL l').take i).foldl (cstS (fun p s=>f88 p gs s) (cst (nbx l' 0) (nbx l' 1) (fun p s=>f88 p gs s) k) pt) never∧0 ≤ s.1∧s.1 ≤ never∧KOk (nbx l' 0) (nbx l' 1) gs V s.2) _ ⟨rfl,by show (0:Int) ≤ 1073741824; omega,by show (1073741824:Int) ≤ 1073741824; omega,by rw [nbx_of hB,nbx_of hB]; exact hm⟩ (fun i h s hI=>?_) (fun s hI=>?_))
   ·obtain ⟨b, mm⟩ := s
    obtain ⟨i1,i2,i3,i4⟩:=hI
    simp only at i1 i2 i3 i4
    obtain ⟨nl,c,_,_,h3,h4,h5,_,h7,h8⟩:=stL_mem hl' (List.getElem_mem h)
    obtain ⟨to,bb,e1,e2⟩:=hV.step (stL l')[i].2 hv
    rw [take_succ h,List.foldl_append,← i1]
    show Yes ((f88 pt gs (stL l')[i].2).bind _) _
    rw [e1,Option.bind_some]
    have hs:cstS (fun p s=>f88 p gs s) (cst (nbx l' 0) (nbx l' 1) (fun p s=>f88 p gs s) k) pt b (stL l')[i]=bif bb then min b ((stL l')[i].2.moves + cst (nbx l' 0) (nbx l' 1) (fun p s=>f88 p gs s) k to) else b:=by
     unfold cstS; simp only [e1]; cases bb <;> rfl
    rw [List.foldl_cons,List.foldl_nil,hs]
    cases bb with
    | false=>exact qskip rfl (Yes.some ⟨rfl,rfl,i2,i3,i4⟩)
    | true=>
     obtain ⟨e3,e4⟩:=e2 rfl
     have rg:=cst_rng hl' hV k h3 h4 (e3.trans h5) e4
     refine qtake rfl (Yes.bind ((s57 hl' hV k n (by omega) h3 h4 (e3.trans h5) e4 i4).mono fun r hr'=>Yes.some ?_))
     obtain ⟨g1,g2⟩:=hr'
     have hw:w64 ((stL l')[i].2.moves + cst (nbx l' 0) (nbx l' 1) (fun p s=>f88 p gs s) k to)=(stL l')[i].2.moves + cst (nbx l' 0) (nbx l' 1) (fun p s=>f88 p gs s) k to:=w64_id (by omega) (by unfold never at rg; omega)
     have hfin:min64 b (w64 ((stL l')[i].2.moves + r.1))=min b ((stL l')[i].2.moves + cst (nbx l' 0) (nbx l' 1) (fun p s=>f88 p gs s) k to):=by rw [g1,hw,min64_eq]
     exact ⟨rfl,hfin,by show 0 ≤ min64 b (w64 ((stL l')[i].2.moves + r.1)); rw [hfin]; omega,by show min64 b (w64 ((stL l')[i].2.moves + r.1)) ≤ never; rw [hfin]; omega,g2⟩
   ·obtain ⟨i1, i2, i3, i4⟩ := hI
    rw [List.take_length] at i1
    have he:s.1=cst (nbx l' 0) (nbx l' 1) (fun p s=>f88 p gs s) (k + 1) pt:=by rw [i1,cst,hr,pkR_rc hl']
    refine Yes.some (Yes.some ⟨he,⟨fun {p v k'} hg hv'=>?_⟩⟩)
    rw [mgetm] at hg
    split at hg
    ·rename_i hp; subst hp
     cases hg
     rw [hV.one hv' hv]; exact he
    ·exact i4.ok hg hv'
end Go.Proofs.Ytmpjooneiaiffaa
