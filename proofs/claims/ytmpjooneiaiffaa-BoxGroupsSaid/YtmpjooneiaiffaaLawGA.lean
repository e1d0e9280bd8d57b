/- BoxFewests. -/
import Derived.Test.YtmpjooneiaiffaaLawAA
set_option maxRecDepth 8000
namespace Go.Proofs.Ytmpjooneiaiffaa
open Go.RowKit
open Classical

theorem allP_len {l:BoxLoom} (hl:LOk l):(allP l).length ≤ 16:=by
 obtain ⟨_,a0,b0⟩:=nbx_eq hl (s:=0) (by omega)
 obtain ⟨_,a1,b1⟩:=nbx_eq hl (s:=1) (by omega)
 have:∀ i,((List.range i).flatMap (row (nbx l 1))).length=i * nbx l 1:=fun i=>by
  induction i with
  | zero=>simp
  | succ i ih=>rw [List.range_succ,List.flatMap_append,List.length_append,ih,List.flatMap_cons,List.flatMap_nil,List.append_nil,row,List.length_map,List.length_range,Nat.add_mul]; omega
 show ((List.range (nbx l 0)).flatMap (row (nbx l 1))).length ≤ 16
 rw [this]
 exact Nat.le_trans (Nat.mul_le_mul b0 b1) (by omega)
theorem cut_tail {α:Type} (c:α) (cs:List α):cut (c :: cs) (1:Int) (((c :: cs).length:Nat):Int)=some cs:=by
 unfold cut
 rw [if_pos ⟨by omega,by simp; omega,Int.le_refl _⟩]
 simp
theorem s22 : ∀ (cs : List Int) (n : Nat) {l : BoxLoom}, cs.length < n → cs.length ≤ 30 → LOk l → f22 n l cs = some (rf cs l)
 | cs,0,_,h,_,_=>absurd h (Nat.not_lt_zero _)
 | [],n + 1,l,_,_,_=>by rw [f22,rf]; rfl
 | c :: cs,n + 1,l,hn,h30,hl=>by
  simp only [List.length_cons] at hn h30
  have hal:=allP_len hl
  have hF:∀ n,LOk n→RfOk cs n:=fun n hn=>rf_ok cs (by omega) hn
  refine Yes.eq ?_
  rw [f22]
  refine Yes.jn (Qi (beq_eq_false_iff_ne.2 (by simp only [List.length_cons]; omega)) (Gp _ (s60 hl) (Yes.bind (Yes.mono (Q':=fun r=>r=rf (c :: cs) l) ?_ fun r hr=>Yes.some hr))))
  refine Yes.lp (fun s=>∃ i:Nat,s.2.2.2.2=(i:Int)∧i ≤ (allP l).length∧(s.1,s.2.1,s.2.2.1,s.2.2.2.1)=((allP l).take i).foldl (rfS l c (cs.length:Int) (fun n=>rf cs n)) ([],0,0,false)) (fun s=>(allP l).length + 1 - s.2.2.2.2.toNat) ⟨0,rfl,by omega,by simp⟩ (by simp; omega) ?_
  rintro ⟨pk,mv,fa,fd,u⟩ kk ⟨i,rfl,hi,hs⟩ hk
  simp only at hs
  by_cases hlt:i < (allP l).length
  ·have hpa : (allP l)[i] ∈ allP l := List.getElem_mem hlt
   have hpi:=(mem_allP hl).1 hpa
   have next:∀ s':List Ge × Int × Int × Bool,s'=rfS l c (cs.length:Int) (fun n=>rf cs n) (pk,mv,fa,fd) (allP l)[i]→Yes (kk (s'.1,s'.2.1,s'.2.2.1,s'.2.2.2,w64 ((i:Int) + 1))) (fun r=>r=rf (c :: cs) l):=fun s' hs'=>by
    rw [Wi (by omega) (by omega)]
    refine hk _ ⟨i + 1,by simp,hlt,?_⟩ ?_
    ·rw [take_succ hlt,List.foldl_append,← hs,List.foldl_cons,List.foldl_nil]; exact hs'
    ·show (allP l).length + 1 - ((i:Int) + 1).toNat < (allP l).length + 1 - ((i:Int)).toNat; omega
   have hb:=rf_bd hl (c:=c) hF ((allP l).take i) ([],0,0,false) (fun p hp=>List.mem_of_mem_take hp) ⟨by simp,by simp; omega,by simp⟩
   have hI:RfI l c cs ((allP l).take i) (((allP l).take i).foldl (rfS l c (cs.length:Int) (fun n=>rf cs n)) ([],0,0,false)):=rf_fold hl (by omega) hF ((allP l).take i) [] _ (fun p hp=>List.mem_of_mem_take hp) ⟨fun _=>rfl,fun h=>(by cases h),by simp,by show (0:Int) ≤ _; omega,fun k=>⟨fun h=>by have h:(k:Int) + 1 ≤ 0:=h; omega,fun ⟨q,hq,_⟩=>by cases hq⟩⟩
   have hfa:=hI.far
   rw [← hs] at hb hfa
   simp only at hb hfa
   refine Yes.jn (Qw (by simp; omega) (Yes.jn (Yes.bind (Gp _ (qidx hlt) (Gp _ (s61 hl hpi) (Yes.jn (Yes.bind ?_)))))))
   have hu : rfS l c (cs.length : Int) (fun n => rf cs n) (pk, mv, fa, fd) (allP l)[i] = match oneL l (allP l)[i] with
    | some x => if colr l x.2.1 = c then
      (if (rf cs x.1).2.2=(cs.length:Int)∧(fd=false ∨ x.2.2 + (rf cs x.1).2.1 < mv) then ((allP l)[i] :: (rf cs x.1).1,x.2.2 + (rf cs x.1).2.1,max fa (1 + (rf cs x.1).2.2),true) else (pk,mv,max fa (1 + (rf cs x.1).2.2),fd))
     else (pk,mv,fa,fd)
    | none=>(pk,mv,fa,fd):=rfl
   cases ho:oneL l (allP l)[i] with
   | none=>
    rw [ho] at hu
    exact Qw rfl (Yes.some (Qw rfl (Yes.some (next (pk,mv,fa,fd) hu.symm))))
   | some x=>
    obtain ⟨nl,j,m⟩:=x
    rw [ho] at hu
    obtain ⟨h1,_,_,hj,h5,h6⟩:=oneL_ok hl hpi ho
    have hcol:=colr_at hj
    refine Qi rfl (Gp _ (qidx hj) (Gp c (by show idx (c :: cs) ((0:Nat):Int)=_; rw [qidx (by simp)]; rfl) (Yes.some (Yes.cond (fun hc=>?_) (fun hc=>?_)))))
    ·have hc : l.Shuttles[j].Colour ≠ c := by simpa using hc
     simp only [if_neg (show ¬ colr l j=c by rw [hcol]; exact hc)] at hu
     exact Yes.some (next (pk,mv,fa,fd) hu.symm)
    ·have hc : l.Shuttles[j].Colour = c := by simpa using hc
     simp only [if_pos (show colr l j=c by rw [hcol]; exact hc)] at hu
     have hr:=hF nl h1
     have hrf:=hr.far
     have hrb:=hr.bd
     refine Gp _ (cut_tail c cs) (Gp _ (s22 cs n (by omega) (by omega) h1) (Yes.bind ?_))
     have w1:w64 (((c :: cs).length:Int) - 1)=(cs.length:Int):=by rw [Wi (by simp only [List.length_cons]; omega) (by simp only [List.length_cons]; omega)]; simp only [List.length_cons]; omega
     have w2:w64 (m + (rf cs nl).2.1)=m + (rf cs nl).2.1:=Wi (by omega) (by omega)
     have w3:Wj fa (w64 (1 + (rf cs nl).2.2))=max fa (1 + (rf cs nl).2.2):=by rw [max64_eq,Wi (by omega) (by omega)]
     refine Yes.mono (Q':=fun b=>b=decide ((rf cs nl).2.2=(cs.length:Int)∧(fd=false ∨ m + (rf cs nl).2.1 < mv))) ?_ fun b hb'=>?_
     ·rw [w1]
      refine Yes.cond (fun hc2=>?_) (fun hc2=>Yes.some ?_)
      ·have hc2 := beq_iff_eq.1 hc2
       refine Yes.cond (fun hc3=>Yes.some ?_) (fun hc3=>Yes.some ?_)
       ·exact (decide_eq_true ⟨hc2,.inl (by simpa using hc3)⟩).symm
       ·have hfd : fd = true := by simpa using hc3
        show decide (w64 (m + (rf cs nl).2.1) < mv)=_
        rw [w2,decide_eq_decide]
        exact ⟨fun h=>⟨hc2,.inr h⟩,fun h=>h.2.resolve_left (by rw [hfd]; simp)⟩
      ·exact (decide_eq_false fun h=>beq_eq_false_iff_ne.1 hc2 h.1).symm
     ·subst hb'
      refine Yes.cond (fun hc2=>?_) (fun hc2=>?_)
      ·rw [if_pos (of_decide_eq_true hc2)] at hu
       refine Gp _ (qidx hlt) (Yes.bind (Yes.apnd (by simp; omega) (by simp; omega) (Yes.some ?_)))
       refine next ((allP l)[i] :: (rf cs nl).1,w64 (m + (rf cs nl).2.1),Wj fa (w64 (1 + (rf cs nl).2.2)),true) ?_
       rw [w2,w3]; exact hu.symm
      ·rw [if_neg (of_decide_eq_false hc2)] at hu
       refine Yes.some (next (pk,mv,Wj fa (w64 (1 + (rf cs nl).2.2)),fd) ?_)
       rw [w3]; exact hu.symm
  ·have hie : i = (allP l).length := by omega
   subst hie
   rw [List.take_length] at hs
   refine Yes.jn (Qi (by simp) (Yes.some ?_))
   rw [rf,← hs]
/-! ### Groups of one colour -/
theorem foldl_mem {α β : Type} {f g : β → α → β} : ∀ (xs : List α) (b : β), (∀ x ∈ xs, ∀ b, f b x = g b x) → xs.foldl f b = xs.foldl g b
 | [],_,_=>rfl
 | x :: xs,b,h=>by rw [List.foldl_cons,List.foldl_cons,h x (by simp),foldl_mem xs _ fun y hy=>h y (by simp [hy])]
end Go.Proofs.Ytmpjooneiaiffaa
/- Plain laws: functions with several outcomes; what the orders of groups cost. -/
set_option maxRecDepth 8000
namespace Go.Proofs.Ytmpjooneiaiffaa
open Go.RowKit
open Classical

/-! ### All outcomes -/
def AllQ {α:Type} (Q:α→Prop) (rs:List α):Prop:=rs ≠ []∧∀ r ∈ rs,Q r
theorem AllQ.one {α:Type} {Q:α→Prop} {a:α} (h:Q a):AllQ Q [a]:=⟨by simp,by simpa using h⟩
theorem catL_yes {α : Type} {Q : α → Prop} : ∀ {l : List (Option (List α))}, l ≠ [] → (∀ x ∈ l, Yes x (AllQ Q)) → Yes (catL l) (AllQ Q)
 | [],h,_=>absurd rfl h
 | x :: l,_,h=>by
  obtain ⟨rs,h1,h2,h3⟩:=h x (by simp)
  by_cases hl:l=[]
  ·subst hl; subst h1
   exact ⟨rs ++ [],rfl,by simpa using h2,by simpa using h3⟩
  ·obtain ⟨qs, k1, k2, k3⟩ := catL_yes hl fun z hz => h z (by simp [hz])
   subst h1
   refine ⟨rs ++ qs,by simp only [catL,k1],by simp [h2],fun r hr=>?_⟩
   rcases List.mem_append.1 hr with hr | hr
   ·exact h3 r hr
   ·exact k3 r hr
theorem mem_splits {α : Type} : ∀ {l : List α} {q : α} {rm : List α}, (q, rm) ∈ splits l → l.Perm (q :: rm)
 | [],_,_,h=>by simp [splits] at h
 | x :: xs,q,rm,h=>by
  simp only [splits,List.mem_cons,List.mem_map] at h
  rcases h with h | ⟨p,hp,he⟩
  ·cases h; exact List.Perm.refl _
  ·cases he
   exact ((mem_splits (q:=p.1) (rm:=p.2) hp).cons x).trans (List.Perm.swap _ _ _)
theorem Yes.pickL {α β:Type} {rem:List α} {k:α→List α→Option (List β)} {Q:β→Prop} (hne:rem ≠ []) (h:∀ q rm,rem.Perm (q :: rm)→Yes (k q rm) (AllQ Q)):Yes (Go.Proofs.Ytmpjooneiaiffaa.pickL rem k) (AllQ Q):=by
 unfold Go.Proofs.Ytmpjooneiaiffaa.pickL
 refine catL_yes ?_ fun x hx=>?_
 ·cases rem with
  | nil=>exact absurd rfl hne
  | cons x xs=>simp [splits]
 ·obtain ⟨p, hp, rfl⟩ := List.mem_map.1 hx
  exact h p.1 p.2 (mem_splits hp)
theorem callL_eq {α β:Type} {rs:List α} {k:α→Option β} {b:β} (hne:rs ≠ []) (h:∀ a ∈ rs,k a=some b):callL rs k=some b:=by
 cases rs with
 | nil=>exact absurd rfl hne
 | cons a l=>
  have ha:=h a (by simp)
  have hall:∀ c ∈ l,k c=k a:=fun c hc=>by rw [h c (by simp [hc]),ha]
  show (@ite _ (∀ c ∈ l,k c=k a) (Classical.propDecidable _) (k a) none)=_
  rw [if_pos hall,ha]
/-! ### The least of some values -/
def mnF {α:Type} (φ:α→Option Int) (b:Int) (x:α):Int:=match φ x with | some v=>min b v | none=>b
theorem mn_le {α : Type} {φ : α → Option Int} {t : Int} : ∀ (xs : List α) (b : Int), xs.foldl (mnF φ) b ≤ t ↔ b ≤ t ∨ ∃ x ∈ xs, ∃ v, φ x = some v ∧ v ≤ t
 | [],b=>by simp
 | x :: xs,b=>by
  rw [List.foldl_cons,mn_le xs]
  cases hx:φ x with
  | none=>
   rw [show mnF φ b x=b from by unfold mnF; rw [hx]]
   refine or_congr_right ⟨fun ⟨y,hy,v,h⟩=>⟨y,by simp [hy],v,h⟩,fun ⟨y,hy,v,h1,h2⟩=>?_⟩
   rcases List.mem_cons.1 hy with rfl | hy
   ·rw [hx] at h1; cases h1
   ·exact ⟨y,hy,v,h1,h2⟩
  | some u=>
   rw [show mnF φ b x=min b u from by unfold mnF; rw [hx]]
   constructor
   ·rintro (h | ⟨y, hy, v, h⟩)
    ·rcases Int.le_total b u with hbu | hbu
     ·exact .inl (by omega)
     ·exact .inr ⟨x,by simp,u,hx,by omega⟩
    ·exact .inr ⟨y,by simp [hy],v,h⟩
   ·rintro (h | ⟨y, hy, v, h1, h2⟩)
    ·exact .inl (by omega)
    ·rcases List.mem_cons.1 hy with rfl | hy
     ·rw [hx] at h1; cases h1; exact .inl (by omega)
     ·exact .inr ⟨y,hy,v,h1,h2⟩
/-! ### Orders of what is left at a point, and what they cost -/
structure Nx (gs : List (List Int)) (V : Gd → Nat → Prop) (N : Int → Int → Int → Option (Int × Int)) : Prop where
 pts:Pts gs V
 yes:∀ {pt k} {s:Te} {g d:Int},V pt (k + 1)→N pt.group pt.done s.colour=some (g,d)→f88 pt gs s=some (⟨g,d,s.next⟩,true)
 no:∀ {pt k} {s:Te},V pt (k + 1)→N pt.group pt.done s.colour=none→∃ to,f88 pt gs s=some (to,false)
def OrdN (N : Int → Int → Int → Option (Int × Int)) : Nat → Int → Int → List Int → Prop
 | 0,_,_,o=>o=[]
 | k + 1,g,d,o=>∃ c o' g' d',o=c :: o'∧N g d c=some (g',d')∧OrdN N k g' d' o'
noncomputable def cRF (c:Int) (F:Gv→Int) (s:Ge × Te):Option Int:=if s.2.colour=c then some (s.2.moves + F s.2.next) else none
noncomputable def cR (B0 B1 : Nat) : List Int → Gv → Int
 | [],_=>0
 | c :: cs,r=>(pkR B0 B1 r).foldl (mnF (cRF c (cR B0 B1 cs))) Tx
noncomputable def cstF (A:Gd→Te→Option (Gd × Bool)) (F:Gd→Int) (pt:Gd) (s:Ge × Te):Option Int:=match A pt s.2 with | some (to,true)=>some (s.2.moves + F to) | _=>none
theorem cstS_mn (A:Gd→Te→Option (Gd × Bool)) (F:Gd→Int) (pt:Gd):cstS A F pt=mnF (cstF A F pt):=by
 funext b s
 unfold cstS mnF cstF
 split <;> simp_all
def Rok (l:BoxLoom) (r:Gv):Prop:=∃ l',LOk l'∧l'.Boxes=l.Boxes∧r=rc l'
theorem Rok.pk {l:BoxLoom} {r:Gv} (h:Rok l r) {s:Ge × Te} (hs:s ∈ pkR (nbx l 0) (nbx l 1) r):Rok l s.2.next∧0 ≤ s.2.moves∧s.2.moves ≤ 6∧0 ≤ s.2.colour∧s.2.colour ≤ 9:=by
 obtain ⟨l',h1,h2,rfl⟩:=h
 rw [← nbx_of h2,← nbx_of h2,pkR_rc h1] at hs
 obtain ⟨n,i,_,_,h3,h4,h5,h6,h7,h8⟩:=stL_mem h1 hs
 have:=colr_nn h1 i
 exact ⟨⟨n,h3,h4.trans h2,h5⟩,h7,h8,by omega,by omega⟩
section
variable {l:BoxLoom} {gs:List (List Int)} {V:Gd→Nat→Prop} {N:Int→Int→Int→Option (Int × Int)}
theorem cst_le (hN : Nx gs V N) : ∀ (k : Nat) {pt : Gd} {t : Int}, Rok l pt.race → V pt k → (cst (nbx l 0) (nbx l 1) (fun p s => f88 p gs s) k pt ≤ t ↔ Tx ≤ t ∨ ∃ o, OrdN N k pt.group pt.done o ∧ cR (nbx l 0) (nbx l 1) o pt.race ≤ t)
 | 0,pt,t,_,_=>by
  rw [cst]
  constructor
  ·intro h; exact .inr ⟨[],rfl,by rw [cR]; exact h⟩
  ·rintro (h | ⟨o, ho, h⟩)
   ·unfold Tx at h; omega
   ·rw [show o=[] from ho,cR] at h; exact h
 | k + 1,pt,t,hr,hv=>by
  rw [cst,cstS_mn,mn_le]
  constructor
  ·rintro (h | ⟨s, hs, v, h1, h2⟩)
   ·exact .inl h
   obtain ⟨r1,r2,_⟩:=hr.pk hs
   unfold cstF at h1
   cases hn:N pt.group pt.done s.2.colour with
   | none=>
    obtain ⟨to,e⟩:=hN.no hv hn
    simp only [e] at h1; cases h1
   | some x=>
    obtain ⟨g,d⟩:=x
    have e:=hN.yes hv hn
    obtain ⟨to,b,e1,e2⟩:=hN.pts.step s.2 hv
    rw [e] at e1; cases e1
    obtain ⟨_,hv'⟩:=e2 rfl
    simp only [e,Option.some.injEq] at h1
    rcases (cst_le hN k (pt:=⟨g,d,s.2.next⟩) (t:=t - s.2.moves) r1 hv').1 (by omega) with h | ⟨o',ho',h⟩
    ·exact .inl (by omega)
    ·refine .inr ⟨s.2.colour :: o', ⟨_, _, _, _, rfl, hn, ho'⟩, ?_⟩
     rw [cR,mn_le]
     exact .inr ⟨s,hs,_,by unfold cRF; rw [if_pos rfl],by simp only at h; omega⟩
  ·rintro (h | ⟨o, ⟨c, o', g', d', rfl, hn, ho'⟩, h⟩)
   ·exact .inl h
   rw [cR,mn_le] at h
   rcases h with h | ⟨s,hs,v,h1,h2⟩
   ·exact .inl h
   unfold cRF at h1
   split at h1
   ·rename_i hc
    subst hc
    obtain ⟨r1,r2,_⟩:=hr.pk hs
    have e:=hN.yes hv hn
    obtain ⟨to,b,e1,e2⟩:=hN.pts.step s.2 hv
    rw [e] at e1; cases e1
    obtain ⟨_,hv'⟩:=e2 rfl
    cases h1
    refine .inr ⟨s,hs,s.2.moves + cst (nbx l 0) (nbx l 1) (fun p s=>f88 p gs s) k ⟨g',d',s.2.next⟩,by unfold cstF; simp only [e],?_⟩
    have:=(cst_le hN k (pt:=⟨g',d',s.2.next⟩) (t:=t - s.2.moves) r1 hv').2 (.inr ⟨o',ho',by show cR _ _ o' s.2.next ≤ _; omega⟩)
    omega
   ·cases h1
theorem cst_le_cR (hN:Nx gs V N) {k:Nat} {pt:Gd} {o:List Int} (hr:Rok l pt.race) (hv:V pt k) (ho:OrdN N k pt.group pt.done o):cst (nbx l 0) (nbx l 1) (fun p s=>f88 p gs s) k pt ≤ cR (nbx l 0) (nbx l 1) o pt.race:=
 (cst_le hN k hr hv).2 (.inr ⟨o,ho,Int.le_refl _⟩)
theorem Nx.to (hN:Nx gs V N) {k:Nat} {pt:Gd} {s:Te} {g d:Int} (hv:V pt (k + 1)) (hn:N pt.group pt.done s.colour=some (g,d)):V ⟨g,d,s.next⟩ k:=by
 have e:=hN.yes hv hn
 obtain ⟨to,b,e1,e2⟩:=hN.pts.step s hv
 rw [e] at e1; cases e1
 exact (e2 rfl).2
theorem cst_step (hN : Nx gs V N) {k : Nat} {pt : Gd} {s : Ge × Te} {g d : Int} (hv : V pt (k + 1)) (hs : s ∈ pkR (nbx l 0) (nbx l 1) pt.race) (hn : N pt.group pt.done s.2.colour = some (g, d)) :
  cst (nbx l 0) (nbx l 1) (fun p s=>f88 p gs s) (k + 1) pt ≤ s.2.moves + cst (nbx l 0) (nbx l 1) (fun p s=>f88 p gs s) k ⟨g,d,s.2.next⟩:=by
 rw [cst,cstS_mn,mn_le]
 exact .inr ⟨s,hs,_,by unfold cstF; simp only [hN.yes hv hn],Int.le_refl _⟩
end
end Go.Proofs.Ytmpjooneiaiffaa
