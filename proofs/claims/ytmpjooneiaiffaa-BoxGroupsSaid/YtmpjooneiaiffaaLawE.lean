/- Plain laws: what is in a box; one pick, by the reference. -/
import Derived.Test.YtmpjooneiaiffaaLawD
set_option maxRecDepth 8000
namespace Go.Proofs.Ytmpjooneiaiffaa
open Go.RowKit
open Classical

def isAt (xs:List Zv) (s b:Int) (i:Nat):Prop:=∃ h:i < xs.length,xs[i].Side=s∧xs[i].Box=b
noncomputable def inX (xs:List Zv) (s b:Int):Int:=if h:∃ i,isAt xs s b i then ((Classical.choose h:Nat):Int) else -1
theorem Dst.one {xs:List Zv} (hd:Dst xs) {s b:Int} {i j:Nat} (h1:isAt xs s b i) (h2:isAt xs s b j):i=j:=by
 obtain ⟨hi,a1,a2⟩:=h1
 obtain ⟨hj,b1,b2⟩:=h2
 rcases Nat.lt_trichotomy i j with h | h | h
 ·exact absurd ⟨b1.trans a1.symm,b2.trans a2.symm⟩ (hd j i hj hi h)
 ·exact h
 ·exact absurd ⟨a1.trans b1.symm,a2.trans b2.symm⟩ (hd i j hi hj h)
theorem inX_some {xs:List Zv} (hd:Dst xs) {s b:Int} {i:Nat} (h:isAt xs s b i):inX xs s b=i:=by
 unfold inX
 have he:∃ i,isAt xs s b i:=⟨i,h⟩
 rw [dif_pos he,hd.one (Classical.choose_spec he) h]
theorem inX_none {xs:List Zv} {s b:Int} (h:¬ ∃ i,isAt xs s b i):inX xs s b=-1:=by
 unfold inX; rw [dif_neg h]
theorem inX_cases {xs:List Zv} (hd:Dst xs) (s b:Int):(∃ i:Nat,isAt xs s b i∧inX xs s b=i) ∨ ((¬ ∃ i,isAt xs s b i)∧inX xs s b=-1):=by
 by_cases h:∃ i,isAt xs s b i
 ·obtain ⟨i,hi⟩:=h; exact .inl ⟨i,hi,inX_some hd hi⟩
 ·exact .inr ⟨h,inX_none h⟩
theorem s89 (l:BoxLoom) (h:l.Shuttles.length ≤ 1000) (hd:Dst l.Shuttles) (s b:Int):f89 l s b=some (inX l.Shuttles s b):=by
 refine Yes.eq ?_
 unfold f89
 refine Yes.jn (Yes.upto0 l.Shuttles.length (by omega) (fun i=>∀ j,j < i→¬ isAt l.Shuttles s b j) (fun _ h=>absurd h (Nat.not_lt_zero _)) (fun i k hi hI hk=>?_) (fun k hI=>?_))
 ·refine Yes.jn (Qw (by simp; omega) (Yes.jn (Yes.bind (Yes.mono (Q' := fun r => r = decide (isAt l.Shuttles s b i)) ?_ fun r hr => ?_))))
  ·refine Gp _ (qidx hi) (Yes.cond (fun hc => Gp _ (qidx hi) (Yes.some ?_)) (fun hc => Yes.some ?_))
   ·have : l.Shuttles[i].Side = s := by simpa using hc
    by_cases h9:l.Shuttles[i].Box=b
    ·rw [decide_eq_true (p:=isAt l.Shuttles s b i) ⟨hi,this,h9⟩]; simp [h9]
    ·rw [decide_eq_false (p:=isAt l.Shuttles s b i) (fun h=>h9 h.2.2)]; simp [h9]
   ·have : ¬ l.Shuttles[i].Side = s := by simpa using hc
    exact (decide_eq_false (p:=isAt l.Shuttles s b i) (fun h=>this h.2.1)).symm
  ·subst hr
   refine Yes.cond (fun hc=>Yes.some (inX_some hd (of_decide_eq_true hc)).symm) (fun hc=>hk fun j hj=>?_)
   rcases Nat.lt_succ_iff_lt_or_eq.1 hj with h | rfl
   ·exact hI j h
   ·exact of_decide_eq_false hc
 ·refine Yes.jn (Qi (by simp) (Yes.some (inX_none ?_).symm))
  rintro ⟨j,hj⟩
  exact hI j hj.1 hj
def mv (xs:List Zv) (i:Nat) (s b:Int):List Zv:=xs.modify i fun x=>{ x with Side:=s,Box:=b }
theorem mv_len {xs:List Zv} {i:Nat} {s b:Int}:(mv xs i s b).length=xs.length:=by simp [mv]
theorem mv_at {xs:List Zv} {i:Nat} {s b:Int} {j:Nat} (h:j < (mv xs i s b).length) (h':j < xs.length):(mv xs i s b)[j]=if i=j then { xs[j] with Side:=s,Box:=b } else xs[j]:=by
 simp [mv,List.getElem_modify]
theorem mv_isAt {xs:List Zv} {i:Nat} (hi:i < xs.length) {s b s' b':Int} {j:Nat}:isAt (mv xs i s b) s' b' j ↔ (i=j∧s=s'∧b=b') ∨ (i ≠ j∧isAt xs s' b' j):=by
 unfold isAt
 constructor
 ·rintro ⟨h, h1, h2⟩
  have h':j < xs.length:=by rw [mv_len] at h; exact h
  rw [mv_at h h'] at h1 h2
  split at h1
  ·rename_i he
   rw [if_pos he] at h2
   exact .inl ⟨he,h1,h2⟩
  ·rename_i he
   rw [if_neg he] at h2
   exact .inr ⟨he,h',h1,h2⟩
 ·rintro (⟨rfl, rfl, rfl⟩ | ⟨he, h, h1, h2⟩)
  ·refine ⟨by rw [mv_len]; exact hi, ?_⟩
   rw [mv_at (by rw [mv_len]; exact hi) hi,if_pos rfl]; exact ⟨rfl,rfl⟩
  ·refine ⟨by rw [mv_len]; exact h, ?_⟩
   rw [mv_at (by rw [mv_len]; exact h) h,if_neg he]; exact ⟨h1,h2⟩
theorem dst_iff {xs:List Zv}:Dst xs ↔ ∀ s b i j,isAt xs s b i→isAt xs s b j→i=j:=by
 constructor
 ·intro h s b i j h1 h2; exact h.one h1 h2
 ·intro h i j hi hj hji he
  have:=h _ _ i j ⟨hi,rfl,rfl⟩ ⟨hj,he.1.symm,he.2.symm⟩
  omega
theorem mv_dst {xs:List Zv} (hd:Dst xs) {i:Nat} (hi:i < xs.length) {s b:Int} (hn:¬ ∃ j,isAt xs s b j):Dst (mv xs i s b):=by
 rw [dst_iff] at hd ⊢
 intro s' b' j k h1 h2
 rw [mv_isAt hi] at h1 h2
 rcases h1 with ⟨rfl,rfl,rfl⟩ | ⟨hj,h1⟩
 ·rcases h2 with ⟨rfl, _⟩ | ⟨_, h2⟩
  ·rfl
  ·exact absurd ⟨_,h2⟩ hn
 ·rcases h2 with ⟨rfl, rfl, rfl⟩ | ⟨_, h2⟩
  ·exact absurd ⟨_,h1⟩ hn
  ·exact hd _ _ _ _ h1 h2
def mvs (l:BoxLoom) (p:Ge):Int:=(max p.Left (l.At.getD 0 0) - min p.Left (l.At.getD 0 0)) + (max p.Right (l.At.getD 1 0) - min p.Right (l.At.getD 1 0))
noncomputable def oneL (l:BoxLoom) (p:Ge):Option (BoxLoom × Nat × Int):=
 if h:(inX l.Shuttles 0 p.Left < 0) ↔ (inX l.Shuttles 1 p.Right < 0) then none
 else if 0 ≤ inX l.Shuttles 0 p.Left then some (⟨l.Boxes,[p.Left,p.Right],mv l.Shuttles (inX l.Shuttles 0 p.Left).toNat 1 p.Right⟩,(inX l.Shuttles 0 p.Left).toNat,mvs l p)
 else some (⟨l.Boxes,[p.Left,p.Right],mv l.Shuttles (inX l.Shuttles 1 p.Right).toNat 0 p.Left⟩,(inX l.Shuttles 1 p.Right).toNat,mvs l p)
theorem okP_iff {B:List Int} {p:Ge}:okP B p=true ↔ (0 ≤ p.Left∧p.Left ≤ B.getD 0 0 - 1)∧(0 ≤ p.Right∧p.Right ≤ B.getD 1 0 - 1):=by
 unfold okP; rw [Bool.and_eq_true,btw_iff,btw_iff]
theorem set_set {xs : List Zv} {i : Nat} (hi : i < xs.length) (s b : Int) :
  (xs.set i { xs[i] with Side:=s }).set i { { xs[i] with Side:=s } with Box:=b }=mv xs i s b:=by
 unfold mv
 rw [List.set_set]
 apply List.ext_getElem (by simp)
 intro n h1 h2
 rw [List.getElem_set,List.getElem_modify]
 split
 ·rename_i he; subst he; rfl
 ·rfl
theorem moves_is {a b c d : Int} (ha : 0 ≤ a ∧ a ≤ 1000) (hb : 0 ≤ b ∧ b ≤ 1000) (hc : 0 ≤ c ∧ c ≤ 1000) (hd : 0 ≤ d ∧ d ≤ 1000) :
  w64 (w64 (w64 (Wj a b - min64 a b) + Wj c d) - min64 c d)=(max a b - min a b) + (max c d - min c d):=by
 simp only [max64_eq,min64_eq]
 rw [Wi (n:=max a b - min a b) (by omega) (by omega),Wi (n:=max a b - min a b + max c d) (by omega) (by omega),Wi (by omega) (by omega)]
 omega
theorem s61 {l : BoxLoom} (hl : LOk l) {p : Ge} (hp : okP l.Boxes p = true) :
  f61 l p=some (match oneL l p with | some (n,i,m)=>(n,(i:Int),m,true) | none=>(l,0,0,false)):=by
 have hd:=hl.dst
 have hf:=hl.few
 have hp':=okP_iff.1 hp
 have b0:=hl.box (i:=0) (by omega)
 have b1:=hl.box (i:=1) (by omega)
 have a0:=hl.at (i:=0) (by omega)
 have a1:=hl.at (i:=1) (by omega)
 refine Yes.eq ?_
 unfold f61
 refine Gp _ (s89 l (by omega) hd 0 p.Left) (Gp _ (s89 l (by omega) hd 1 p.Right) (Yes.jn ?_))
 have hmv:w64 (w64 (w64 (Wj p.Left (l.At.getD 0 0) - min64 p.Left (l.At.getD 0 0)) + Wj p.Right (l.At.getD 1 0)) - min64 p.Right (l.At.getD 1 0))=mvs l p:=
  moves_is (by omega) (by omega) (by omega) (by omega)
 rcases inX_cases hd 0 p.Left with ⟨i,hi,ei⟩ | ⟨hi,ei⟩ <;> rcases inX_cases hd 1 p.Right with ⟨j,hj,ej⟩ | ⟨hj,ej⟩ <;> rw [ei,ej]
 ·refine Gp true (by rw [decide_eq_true (p := (i : Int) ≥ 0) (by omega), decide_eq_true (p := (j : Int) ≥ 0) (by omega)]; rfl) (Yes.some ?_)
  unfold oneL; rw [ei,ej,dif_pos (by omega)]
 ·refine Gp false (by rw [decide_eq_true (p := (i : Int) ≥ 0) (by omega), decide_eq_false (p := (-1 : Int) ≥ 0) (by omega), decide_eq_false (p := (i : Int) < 0) (by omega)]; rfl) ?_
  refine Gp _ (s50 l hl.sml) (Yes.bind ?_)
  refine Qw (by simp) (Gp _ (qidx hi.1) (Gp { l.Shuttles[i]'hi.1 with Side:=1 } ?_ (Yes.some ?_)))
  ·rw [Int.toNat_natCast]
   show idx (l.Shuttles.set i _) (i:Int)=_
   rw [qidx (by rw [List.length_set]; exact hi.1),List.getElem_set_self]
  ·refine Gp _ (at_at hl.len (i := 0) (by omega)) (Gp _ (at_at hl.len (i := 0) (by omega)) (Gp _ (at_at hl.len (i := 1) (by omega)) (Gp _ (at_at hl.len (i := 1) (by omega)) (Yes.some ?_))))
   rw [hmv]
   unfold oneL; rw [ei,ej,dif_neg (by omega),if_pos (by omega)]
   simp only [Int.toNat_natCast]
   rw [← set_set hi.1]
 ·refine Gp false (by rw [decide_eq_true (p := (-1 : Int) < 0) (by omega), decide_eq_false (p := (-1 : Int) ≥ 0) (by omega), decide_eq_false (p := (j : Int) < 0) (by omega)]; rfl) ?_
  refine Gp _ (s50 l hl.sml) (Yes.bind ?_)
  refine Qi (by simp) (Gp _ (qidx hj.1) (Gp { l.Shuttles[j]'hj.1 with Side:=0 } ?_ (Yes.some ?_)))
  ·rw [Int.toNat_natCast]
   show idx (l.Shuttles.set j _) (j:Int)=_
   rw [qidx (by rw [List.length_set]; exact hj.1),List.getElem_set_self]
  ·refine Gp _ (at_at hl.len (i := 0) (by omega)) (Gp _ (at_at hl.len (i := 0) (by omega)) (Gp _ (at_at hl.len (i := 1) (by omega)) (Gp _ (at_at hl.len (i := 1) (by omega)) (Yes.some ?_))))
   rw [hmv]
   unfold oneL; rw [ei,ej,dif_neg (by omega),if_neg (by omega)]
   simp only [Int.toNat_natCast]
   rw [← set_set hj.1]
 ·refine Gp true (by rw [decide_eq_true (p := (-1 : Int) < 0) (by omega), decide_eq_false (p := (-1 : Int) ≥ 0) (by omega)]; rfl) (Yes.some ?_)
  unfold oneL; rw [ei,ej,dif_pos (by omega)]
end Go.Proofs.Ytmpjooneiaiffaa
