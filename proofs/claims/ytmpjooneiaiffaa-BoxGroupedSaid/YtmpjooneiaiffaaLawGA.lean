/- Plain laws: functions with several outcomes; what the orders of groups cost. -/
import Derived.Test.YtmpjooneiaiffaaLawAB
set_option maxRecDepth 8000
namespace Go.Proofs.Ytmpjooneiaiffaa
open Go.RowKit
open Classical

/-! ### All outcomes -/
def Ok {α:Type} (Q:α→Prop) (rs:List α):Prop:=rs ≠ []∧∀ r ∈ rs,Q r
theorem Ok.one {α:Type} {Q:α→Prop} {a:α} (h:Q a):Ok Q [a]:=⟨by simp,by simpa using h⟩
theorem Oy {α : Type} {Q : α → Prop} : ∀ {l : List (Option (List α))}, l ≠ [] → (∀ x ∈ l, Yes x (Ok Q)) → Yes (Iu l) (Ok Q)
 | [],h,_=>absurd rfl h
 | x :: l,_,h=>by
  obtain ⟨rs,h1,h2,h3⟩:=h x (by simp)
  by_cases hl:l=[]
  ·subst hl; subst h1
   exact ⟨rs ++ [],rfl,by simpa using h2,by simpa using h3⟩
  ·obtain ⟨qs, k1, k2, k3⟩ := Oy hl fun z hz => h z (by simp [hz])
   subst h1
   refine ⟨rs ++ qs,by simp only [Iu,k1],by simp [h2],fun r hr=>?_⟩
   rcases List.mem_append.1 hr with hr | hr
   ·exact h3 r hr
   ·exact k3 r hr
theorem Pc {α : Type} : ∀ {l : List α} {q : α} {rm : List α}, (q, rm) ∈ Vh l → l.Perm (q :: rm)
 | [],_,_,h=>by simp [Vh] at h
 | x :: xs,q,rm,h=>by
  simp only [Vh,List.mem_cons,List.mem_map] at h
  rcases h with h | ⟨p,hp,he⟩
  ·cases h; exact List.Perm.refl _
  ·cases he
   exact ((Pc (q:=p.1) (rm:=p.2) hp).cons x).trans (List.Perm.swap _ _ _)
theorem Yes.pickL {α β:Type} {rem:List α} {k:α→List α→Option (List β)} {Q:β→Prop} (hne:rem ≠ []) (h:∀ q rm,rem.Perm (q :: rm)→Yes (k q rm) (Ok Q)):Yes (Go.Proofs.Ytmpjooneiaiffaa.pickL rem k) (Ok Q):=by
 unfold Go.Proofs.Ytmpjooneiaiffaa.pickL
 refine Oy ?_ fun x hx=>?_
 ·cases rem with
  | nil=>exact absurd rfl hne
  | cons x xs=>simp [Vh]
 ·obtain ⟨p, hp, rfl⟩ := List.mem_map.1 hx
  exact h p.1 p.2 (Pc hp)
theorem callL_eq {α β:Type} {rs:List α} {k:α→Option β} {b:β} (hne:rs ≠ []) (h:∀ a ∈ rs,k a=some b):callL rs k=some b:=by
 cases rs with
 | nil=>exact absurd rfl hne
 | cons a l=>
  have ha:=h a (by simp)
  have hall:∀ c ∈ l,k c=k a:=fun c hc=>by rw [h c (by simp [hc]),ha]
  show (@ite _ (∀ c ∈ l,k c=k a) (Classical.propDecidable _) (k a) none)=_
  rw [if_pos hall,ha]
/-! ### The least of some values -/
def mnF {α:Type} (φ:α→Option Int) (b:Int) (x:α):Int:=match φ x with | some v=>min b v | none=>b
theorem Se {α : Type} {φ : α → Option Int} {t : Int} : ∀ (xs : List α) (b : Int), xs.foldl (mnF φ) b ≤ t ↔ b ≤ t ∨ ∃ x ∈ xs, ∃ v, φ x = some v ∧ v ≤ t
 | [],b=>by simp
 | x :: xs,b=>by
  rw [List.foldl_cons,Se xs]
  cases hx:φ x with
  | none=>
   rw [show mnF φ b x=b from by unfold mnF; rw [hx]]
   refine or_congr_right ⟨fun ⟨y,hy,v,h⟩=>⟨y,by simp [hy],v,h⟩,fun ⟨y,hy,v,h1,h2⟩=>?_⟩
   rcases List.mem_cons.1 hy with rfl | hy
   ·rw [hx] at h1; cases h1
   ·exact ⟨y,hy,v,h1,h2⟩
  | some u=>
   rw [show mnF φ b x=min b u from by unfold mnF; rw [hx]]
   constructor
   ·rintro (h | ⟨y, hy, v, h⟩)
    ·rcases Int.le_total b u with hbu | hbu
     ·exact .inl (by omega)
     ·exact .inr ⟨x,by simp,u,hx,by omega⟩
    ·exact .inr ⟨y,by simp [hy],v,h⟩
   ·rintro (h | ⟨y, hy, v, h1, h2⟩)
    ·exact .inl (by omega)
    ·rcases List.mem_cons.1 hy with rfl | hy
     ·rw [hx] at h1; cases h1; exact .inl (by omega)
     ·exact .inr ⟨y,hy,v,h1,h2⟩
/-! ### Orders of what is left at a point, and what they cost -/
structure Nx (gs : List (List Int)) (V : Gd → Nat → Prop) (N : Int → Int → Int → Option (Int × Int)) : Prop where
 pts:Pts gs V
 yes:∀ {pt k} {s:Tc} {g d:Int},V pt (k + 1)→N pt.group pt.done s.colour=some (g,d)→f88 pt gs s=some (⟨g,d,s.next⟩,true)
 no:∀ {pt k} {s:Tc},V pt (k + 1)→N pt.group pt.done s.colour=none→∃ to,f88 pt gs s=some (to,false)
def Ru (N : Int → Int → Int → Option (Int × Int)) : Nat → Int → Int → List Int → Prop
 | 0,_,_,o=>o=[]
 | k + 1,g,d,o=>∃ c o' g' d',o=c :: o'∧N g d c=some (g',d')∧Ru N k g' d' o'
noncomputable def cRF (c:Int) (F:Gu→Int) (s:Gf × Tc):Option Int:=if s.2.colour=c then some (s.2.moves + F s.2.next) else none
noncomputable def cR (B0 B1 : Nat) : List Int → Gu → Int
 | [],_=>0
 | c :: cs,r=>(pkR B0 B1 r).foldl (mnF (cRF c (cR B0 B1 cs))) Ti
noncomputable def cstF (A:Gd→Tc→Option (Gd × Bool)) (F:Gd→Int) (pt:Gd) (s:Gf × Tc):Option Int:=match A pt s.2 with | some (to,true)=>some (s.2.moves + F to) | _=>none
theorem cstS_mn (A:Gd→Tc→Option (Gd × Bool)) (F:Gd→Int) (pt:Gd):Pn A F pt=mnF (cstF A F pt):=by
 funext b s
 unfold Pn mnF cstF
 split <;> simp_all
def Rok (l:BoxLoom) (r:Gu):Prop:=∃ l',LOk l'∧l'.Boxes=l.Boxes∧r=rc l'
theorem Rok.pk {l:BoxLoom} {r:Gu} (h:Rok l r) {s:Gf × Tc} (hs:s ∈ pkR (nbx l 0) (nbx l 1) r):Rok l s.2.next∧0 ≤ s.2.moves∧s.2.moves ≤ 6∧0 ≤ s.2.colour∧s.2.colour ≤ 9:=by
 obtain ⟨l',h1,h2,rfl⟩:=h
 rw [← Kt h2,← Kt h2,Ro h1] at hs
 obtain ⟨n,i,_,_,h3,h4,h5,h6,h7,h8⟩:=Ni h1 hs
 have:=Bg h1 i
 exact ⟨⟨n,h3,h4.trans h2,h5⟩,h7,h8,by omega,by omega⟩
section
variable {l:BoxLoom} {gs:List (List Int)} {V:Gd→Nat→Prop} {N:Int→Int→Int→Option (Int × Int)}
theorem Mk (hN : Nx gs V N) : ∀ (k : Nat) {pt : Gd} {t : Int}, Rok l pt.race → V pt k → (cst (nbx l 0) (nbx l 1) (fun p s => f88 p gs s) k pt ≤ t ↔ Ti ≤ t ∨ ∃ o, Ru N k pt.group pt.done o ∧ cR (nbx l 0) (nbx l 1) o pt.race ≤ t)
 | 0,pt,t,_,_=>by
  rw [cst]
  constructor
  ·intro h; exact .inr ⟨[],rfl,by rw [cR]; exact h⟩
  ·rintro (h | ⟨o, ho, h⟩)
   ·unfold Ti at h; omega
   ·rw [show o=[] from ho,cR] at h; exact h
 | k + 1,pt,t,hr,hv=>by
  rw [cst,cstS_mn,Se]
  constructor
  ·rintro (h | ⟨s, hs, v, h1, h2⟩)
   ·exact .inl h
   obtain ⟨r1,r2,_⟩:=hr.pk hs
   unfold cstF at h1
   cases hn:N pt.group pt.done s.2.colour with
   | none=>
    obtain ⟨to,e⟩:=hN.no hv hn
    simp only [e] at h1; cases h1
   | some x=>
    obtain ⟨g,d⟩:=x
    have e:=hN.yes hv hn
    obtain ⟨to,b,e1,e2⟩:=hN.pts.step s.2 hv
    rw [e] at e1; cases e1
    obtain ⟨_,hv'⟩:=e2 rfl
    simp only [e,Option.some.injEq] at h1
    rcases (Mk hN k (pt:=⟨g,d,s.2.next⟩) (t:=t - s.2.moves) r1 hv').1 (by omega) with h | ⟨o',ho',h⟩
    ·exact .inl (by omega)
    ·refine .inr ⟨s.2.colour :: o', ⟨_, _, _, _, rfl, hn, ho'⟩, ?_⟩
     rw [cR,Se]
     exact .inr ⟨s,hs,_,by unfold cRF; rw [if_pos rfl],by simp only at h; omega⟩
  ·rintro (h | ⟨o, ⟨c, o', g', d', rfl, hn, ho'⟩, h⟩)
   ·exact .inl h
   rw [cR,Se] at h
   rcases h with h | ⟨s,hs,v,h1,h2⟩
   ·exact .inl h
   unfold cRF at h1
   split at h1
   ·rename_i hc
    subst hc
    obtain ⟨r1,r2,_⟩:=hr.pk hs
    have e:=hN.yes hv hn
    obtain ⟨to,b,e1,e2⟩:=hN.pts.step s.2 hv
    rw [e] at e1; cases e1
    obtain ⟨_,hv'⟩:=e2 rfl
    cases h1
    refine .inr ⟨s,hs,s.2.moves + cst (nbx l 0) (nbx l 1) (fun p s=>f88 p gs s) k ⟨g',d',s.2.next⟩,by unfold cstF; simp only [e],?_⟩
    have:=(Mk hN k (pt:=⟨g',d',s.2.next⟩) (t:=t - s.2.moves) r1 hv').2 (.inr ⟨o',ho',by show cR _ _ o' s.2.next ≤ _; omega⟩)
    omega
   ·cases h1
theorem Ba (hN:Nx gs V N) {k:Nat} {pt:Gd} {o:List Int} (hr:Rok l pt.race) (hv:V pt k) (ho:Ru N k pt.group pt.done o):cst (nbx l 0) (nbx l 1) (fun p s=>f88 p gs s) k pt ≤ cR (nbx l 0) (nbx l 1) o pt.race:=
 (Mk hN k hr hv).2 (.inr ⟨o,ho,Int.le_refl _⟩)
theorem Nx.to (hN:Nx gs V N) {k:Nat} {pt:Gd} {s:Tc} {g d:Int} (hv:V pt (k + 1)) (hn:N pt.group pt.done s.colour=some (g,d)):V ⟨g,d,s.next⟩ k:=by
 have e:=hN.yes hv hn
 obtain ⟨to,b,e1,e2⟩:=hN.pts.step s hv
 rw [e] at e1; cases e1
 exact (e2 rfl).2
theorem cst_step (hN : Nx gs V N) {k : Nat} {pt : Gd} {s : Gf × Tc} {g d : Int} (hv : V pt (k + 1)) (hs : s ∈ pkR (nbx l 0) (nbx l 1) pt.race) (hn : N pt.group pt.done s.2.colour = some (g, d)) :
  cst (nbx l 0) (nbx l 1) (fun p s=>f88 p gs s) (k + 1) pt ≤ s.2.moves + cst (nbx l 0) (nbx l 1) (fun p s=>f88 p gs s) k ⟨g,d,s.2.next⟩:=by
 rw [cst,cstS_mn,Se]
 exact .inr ⟨s,hs,_,by unfold cstF; simp only [hN.yes hv hn],Int.le_refl _⟩
end
end Go.Proofs.Ytmpjooneiaiffaa
