/- Plain laws: what one pick does to the loom and to the race. -/
import Derived.Test.YtmpjooneiaiffaaLawE
set_option maxRecDepth 8000
namespace Go.Proofs.Ytmpjooneiaiffaa
open Go.RowKit
open Classical

structure Goes (a a' : List Zv) (i : Nat) (s c s' c' : Int) : Prop where
 at0:isAt a s c i
 free:¬ ∃ k,isAt a s' c' k
 to:∀ t d k,isAt a' t d k ↔ (i=k∧s'=t∧c'=d) ∨ (i ≠ k∧isAt a t d k)
theorem Goes.mv {a:List Zv} {i:Nat} {s c s' c':Int} (h:isAt a s c i) (hf:¬ ∃ k,isAt a s' c' k):Goes a (mv a i s' c') i s c s' c':=⟨h,hf,fun _ _ _=>mv_isAt h.1⟩
theorem isAt_same {a:List Zv} {s c t d:Int} {i:Nat} (h:isAt a s c i) (h':isAt a t d i):s=t∧c=d:=by
 obtain ⟨_,h1,h2⟩:=h; obtain ⟨_,k1,k2⟩:=h'; exact ⟨h1.symm.trans k1,h2.symm.trans k2⟩
theorem Goes.left {a a':List Zv} {i:Nat} {s c s' c':Int} (hd:Dst a) (h:Goes a a' i s c s' c') (hn:¬ (s=s'∧c=c')):¬ ∃ k,isAt a' s c k:=by
 rintro ⟨k,hk⟩
 rcases (h.to _ _ _).1 hk with ⟨_,h1,h2⟩ | ⟨h1,h2⟩
 ·exact hn ⟨h1.symm,h2.symm⟩
 ·exact h1 (hd.one h.at0 h2)
theorem Goes.there {a a':List Zv} {i:Nat} {s c s' c':Int} (h:Goes a a' i s c s' c'):isAt a' s' c' i:=(h.to _ _ _).2 (.inl ⟨rfl,rfl,rfl⟩)
def Wh (a b:List Zv):Prop:=∀ s c i,isAt a s c i ↔ isAt b s c i
theorem Wh.symm {a b:List Zv} (h:Wh a b):Wh b a:=fun s c i=>(h s c i).symm
theorem oneL_some {l : BoxLoom} (hd : Dst l.Shuttles) {p : Ge} {n : BoxLoom} {i : Nat} {m : Int} (h : oneL l p = some (n, i, m)) :
  m=mvs l p∧n.Boxes=l.Boxes∧n.At=[p.Left,p.Right]∧((n.Shuttles=mv l.Shuttles i 1 p.Right∧Goes l.Shuttles n.Shuttles i 0 p.Left 1 p.Right) ∨ (n.Shuttles=mv l.Shuttles i 0 p.Left∧Goes l.Shuttles n.Shuttles i 1 p.Right 0 p.Left)):=by
 unfold oneL at h
 rcases inX_cases hd 0 p.Left with ⟨a,ha,ea⟩ | ⟨ha,ea⟩ <;> rcases inX_cases hd 1 p.Right with ⟨b,hb,eb⟩ | ⟨hb,eb⟩ <;> rw [ea,eb] at h
 ·rw [dif_pos (by omega)] at h; cases h
 ·rw [dif_neg (by omega), if_pos (by omega), Int.toNat_natCast] at h
  cases h
  exact ⟨rfl,rfl,rfl,.inl ⟨rfl,Goes.mv ha hb⟩⟩
 ·rw [dif_neg (by omega), if_neg (by omega), Int.toNat_natCast] at h
  cases h
  exact ⟨rfl,rfl,rfl,.inr ⟨rfl,Goes.mv hb ha⟩⟩
 ·rw [dif_pos (by omega)] at h; cases h
theorem oneL_none {l:BoxLoom} (hd:Dst l.Shuttles) {p:Ge}:oneL l p=none ↔ ((inX l.Shuttles 0 p.Left + 1=0) ↔ (inX l.Shuttles 1 p.Right + 1=0)):=by
 unfold oneL
 rcases inX_cases hd 0 p.Left with ⟨a,ha,ea⟩ | ⟨ha,ea⟩ <;> rcases inX_cases hd 1 p.Right with ⟨b,hb,eb⟩ | ⟨hb,eb⟩ <;> rw [ea,eb]
 ·rw [dif_pos (by omega)]; simp; omega
 ·rw [dif_neg (by omega),if_pos (by omega)]; simp; omega
 ·rw [dif_neg (by omega),if_neg (by omega)]; simp; omega
 ·rw [dif_pos (by omega)]; simp
theorem okS_mv {B:List Int} {x:Zv} (h:okS B x=true) {s:Nat} (hs:s < 2) {c:Int} (hc:0 ≤ c∧c ≤ B.getD s 0 - 1):okS B { x with Side:=s,Box:=c }=true:=by
 unfold okS at h ⊢
 simp only [Bool.and_eq_true] at h ⊢
 exact ⟨⟨⟨h.1.1.1,btw_iff.2 (by omega)⟩,btw_iff.2 (by rw [Int.toNat_natCast]; exact hc)⟩,h.2⟩
theorem mv_ok {B:List Int} {xs:List Zv} (h:∀ x ∈ xs,okS B x=true) {i s:Nat} (hs:s < 2) {c:Int} (hc:0 ≤ c∧c ≤ B.getD s 0 - 1):∀ x ∈ mv xs i s c,okS B x=true:=by
 intro x hx
 obtain ⟨j,hj,rfl⟩:=List.mem_iff_getElem.1 hx
 have hj':j < xs.length:=by rw [mv_len] at hj; exact hj
 rw [mv_at hj hj']
 split
 ·exact okS_mv (h _ (List.getElem_mem hj')) hs hc
 ·exact h _ (List.getElem_mem hj')
theorem oneL_ok {l : BoxLoom} (hl : LOk l) {p : Ge} (hp : okP l.Boxes p = true) {n : BoxLoom} {i : Nat} {m : Int} (h : oneL l p = some (n, i, m)) :
  LOk n∧n.Boxes=l.Boxes∧n.Shuttles.length=l.Shuttles.length∧i < l.Shuttles.length∧0 ≤ m∧m ≤ 6:=by
 obtain ⟨h1,h2,h3,h4⟩:=oneL_some hl.dst h
 have hp':=okP_iff.1 hp
 have b0:=hl.box (i:=0) (by omega)
 have b1:=hl.box (i:=1) (by omega)
 have a0:=hl.at (i:=0) (by omega)
 have a1:=hl.at (i:=1) (by omega)
 have hsd:sides n:=fun j hj=>by
  have hb:=hl.box hj
  unfold sideOk
  rw [h2,h3,Bool.and_eq_true]
  refine ⟨btw_iff.2 hb,btw_iff.2 ?_⟩
  rcases (by omega:j=0 ∨ j=1) with rfl | rfl
  ·exact hp'.1
  ·exact hp'.2
 have hlen:len2 n:=⟨by rw [h2]; exact hl.len.1,by rw [h3]; rfl⟩
 have hm:0 ≤ m∧m ≤ 6:=by rw [h1]; unfold mvs; omega
 rcases h4 with ⟨e,g⟩ | ⟨e,g⟩
 ·have hi : i < l.Shuttles.length := g.at0.1
  have hl':n.Shuttles.length=l.Shuttles.length:=by rw [e,mv_len]
  refine ⟨⟨hlen,hsd,by rw [hl']; exact hl.few,by rw [hl']; exact hl.some,?_,?_⟩,h2,hl',hi,hm⟩
  ·rw [e,h2]; exact mv_ok (s:=1) hl.sh (by omega) hp'.2
  ·rw [e]; exact mv_dst hl.dst hi g.free
 ·have hi : i < l.Shuttles.length := g.at0.1
  have hl':n.Shuttles.length=l.Shuttles.length:=by rw [e,mv_len]
  refine ⟨⟨hlen,hsd,by rw [hl']; exact hl.few,by rw [hl']; exact hl.some,?_,?_⟩,h2,hl',hi,hm⟩
  ·rw [e,h2]; exact mv_ok (s:=0) hl.sh (by omega) hp'.1
  ·rw [e]; exact mv_dst hl.dst hi g.free
/-! ### The race -/
theorem vidx {α:Type} {n:Nat} (v:Vector α n) {i:Nat} (h:i < n):idx v.toList (i:Int)=some v[i]:=by
 rw [qidx (by simpa using h)]; simp
theorem vmod_at {β:Type} {n:Nat} {v:Vector β n} {i:Nat} {h:β→β} {j:Nat} (hj:j < n):(vmod v (i:Int) h)[j]=if i=j then h v[j] else v[j]:=by
 unfold vmod
 rw [Int.toNat_natCast]
 split
 ·rw [Vector.getElem_set]; split
  ·rename_i he; subst he; rfl
  ·rfl
 ·rw [if_neg (by omega)]
theorem vset_at {β:Type} {n:Nat} {v:Vector β n} {i:Nat} {y:β} {j:Nat} (hj:j < n):(vset v (i:Int) y)[j]=if i=j then y else v[j]:=by
 unfold vset
 rw [Int.toNat_natCast,Vector.getElem_setIfInBounds]
structure Rel (r : Gv) (l : BoxLoom) : Prop where
 bx:∀ (s b:Nat) (hs:s < 2) (hb:b < 4),r.boxes[s][b]=inX l.Shuttles s b + 1
 at_:r.at_=⟨l.At.getD 0 0,l.At.getD 1 0⟩
theorem inX_eq {xs ys:List Zv} (hx:Dst xs) (hy:Dst ys) {s c:Int} (h:∀ i,isAt xs s c i ↔ isAt ys s c i):inX xs s c=inX ys s c:=by
 rcases inX_cases hx s c with ⟨i,hi,e⟩ | ⟨hi,e⟩
 ·rw [e,inX_some hy ((h i).1 hi)]
 ·rw [e,inX_none fun ⟨j,hj⟩=>hi ⟨j,(h j).2 hj⟩]
theorem Goes.else {a a':List Zv} {i:Nat} {s c s' c':Int} (ha:Dst a) (ha':Dst a') (h:Goes a a' i s c s' c') {t d:Int} (h1:¬ (t=s∧d=c)) (h2:¬ (t=s'∧d=c')):inX a' t d=inX a t d:=by
 refine inX_eq ha' ha fun k=>?_
 rw [h.to]
 constructor
 ·rintro (⟨_, e1, e2⟩ | ⟨_, h⟩)
  ·exact absurd ⟨e1.symm,e2.symm⟩ h2
  ·exact h
 ·intro hk
  refine .inr ⟨fun he=>?_,hk⟩
  subst he
  have:=isAt_same h.at0 hk
  exact h1 ⟨this.1.symm,this.2.symm⟩
theorem s106 {a b:Int} (ha:0 ≤ a∧a ≤ 1000) (hb:0 ≤ b∧b ≤ 1000):f106 a b=some (max a b - min a b):=by
 unfold f106; rw [max64_eq,min64_eq,Wi (by omega) (by omega)]
end Go.Proofs.Ytmpjooneiaiffaa
/- Plain laws: picks thrown one by one, by the reference and by the race. -/
set_option maxRecDepth 8000
namespace Go.Proofs.Ytmpjooneiaiffaa
open Go.RowKit
open Classical

theorem take_succ {α:Type} {xs:List α} {i:Nat} (h:i < xs.length):xs.take (i + 1)=xs.take i ++ [xs[i]]:=by
 rw [List.take_add_one,List.getElem?_eq_getElem h]; rfl
end Go.Proofs.Ytmpjooneiaiffaa
/- Plain laws: rounds, and BoxRounds. -/
set_option maxRecDepth 8000
namespace Go.Proofs.Ytmpjooneiaiffaa
open Go.RowKit
open Classical

section
variable {l:BoxLoom} {ps:List Ge} (hl:LOk l) (hp:∀ p ∈ ps,okP l.Boxes p=true)
include hl hp
end
end Go.Proofs.Ytmpjooneiaiffaa
/- Plain laws: a permutation of eight places comes back after at most 15 rounds. -/
set_option maxRecDepth 8000
namespace Go.Proofs.Ytmpjooneiaiffaa
open Go.RowKit
open Classical

section
variable {π:Nat→Nat}
variable (hlt:∀ x,x < 8→π x < 8) (hinj:∀ x y,x < 8→y < 8→π x=π y→x=y)
include hlt
end
end Go.Proofs.Ytmpjooneiaiffaa
/- Plain laws: each round moves the shuttles by one and the same permutation of the boxes; so it ends after at most 15. -/
set_option maxRecDepth 8000
namespace Go.Proofs.Ytmpjooneiaiffaa
open Go.RowKit
open Classical

def okQ (p:Ge):Prop:=(0 ≤ p.Left∧p.Left ≤ 3)∧(0 ≤ p.Right∧p.Right ≤ 3)
theorem okP.q {l:BoxLoom} (hl:LOk l) {p:Ge} (h:okP l.Boxes p=true):okQ p:=by
 have h1:=okP_iff.1 h
 have b0:=hl.box (i:=0) (by omega)
 have b1:=hl.box (i:=1) (by omega)
 unfold okQ; omega
section
variable {l:BoxLoom} {ps:List Ge} (hl:LOk l) (hp:∀ p ∈ ps,okP l.Boxes p=true)
include hl hp
end
end Go.Proofs.Ytmpjooneiaiffaa
/- Plain laws: the shuttles that picks throw, and the box moves, exactly. -/
set_option maxRecDepth 8000
namespace Go.Proofs.Ytmpjooneiaiffaa
open Go.RowKit
open Classical

end Go.Proofs.Ytmpjooneiaiffaa
/- BoxRounds. -/
set_option maxRecDepth 8000
namespace Go.Proofs.Ytmpjooneiaiffaa
open Go.RowKit
open Classical

end Go.Proofs.Ytmpjooneiaiffaa
/- Plain laws: what box.Throw answers. -/
set_option maxRecDepth 8000
namespace Go.Proofs.Ytmpjooneiaiffaa
open Go.RowKit
open Classical

def colr (l:BoxLoom) (i:Nat):Int:=(l.Shuttles[i]?.map (·.Colour)).getD 0
theorem colr_at {l:BoxLoom} {i:Nat} (h:i < l.Shuttles.length):colr l i=l.Shuttles[i].Colour:=by unfold colr; rw [List.getElem?_eq_getElem h]; rfl
end Go.Proofs.Ytmpjooneiaiffaa
/- Plain laws: full, and standing. -/
set_option maxRecDepth 8000
namespace Go.Proofs.Ytmpjooneiaiffaa
open Go.RowKit
open Classical

structure Smb (n l : BoxLoom) : Prop where
 bx:n.Boxes=l.Boxes
 len:n.Shuttles.length=l.Shuttles.length
 sm:∀ i (h:i < n.Shuttles.length) (h':i < l.Shuttles.length),n.Shuttles[i].Colour=l.Shuttles[i].Colour∧n.Shuttles[i].Yarn=l.Shuttles[i].Yarn
theorem Smb.trans {a b c:BoxLoom} (h:Smb a b) (k:Smb b c):Smb a c:=⟨h.bx.trans k.bx,h.len.trans k.len,fun i h1 h2=>by
 have h3:i < b.Shuttles.length:=by rw [k.len]; exact h2
 exact ⟨(h.sm i h1 h3).1.trans (k.sm i h3 h2).1,(h.sm i h1 h3).2.trans (k.sm i h3 h2).2⟩⟩
end Go.Proofs.Ytmpjooneiaiffaa
/- Plain laws: the loom of bytes is all right. -/
set_option maxRecDepth 8000
namespace Go.Proofs.Ytmpjooneiaiffaa
open Go.RowKit
open Classical

end Go.Proofs.Ytmpjooneiaiffaa
/- Plain laws: the picks of bytes can be thrown. -/
set_option maxRecDepth 8000
namespace Go.Proofs.Ytmpjooneiaiffaa
open Go.RowKit
open Classical

end Go.Proofs.Ytmpjooneiaiffaa
/- Plain laws: picks thrown the other way round bring all back. -/
set_option maxRecDepth 8000
namespace Go.Proofs.Ytmpjooneiaiffaa
open Go.RowKit
open Classical

end Go.Proofs.Ytmpjooneiaiffaa
/- BoxBack. -/
set_option maxRecDepth 8000
namespace Go.Proofs.Ytmpjooneiaiffaa
open Go.RowKit
open Classical

end Go.Proofs.Ytmpjooneiaiffaa
