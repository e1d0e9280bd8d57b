/- Laws of plain functions, part 1. -/
import Derived.Test.YtlmibfohllgmeaaGreatCodes
import Derived.Test.YtlmibfohllgmeaaGreatYes
set_option maxRecDepth 8000
namespace Go.Proofs.YtlmibfohllgmeaaGreat
open Go.RowKit
open Classical
theorem qskipS {α:Type} {Q:α→Prop} {c:Bool} {X Y:Option α} (hc:c=false) (h:Yes Y Q):Yes (bif c then X else Y) Q:=by rw [hc]; exact h
theorem qtakeS {α:Type} {Q:α→Prop} {c:Bool} {X Y:Option α} (hc:c=true) (h:Yes X Q):Yes (bif c then X else Y) Q:=by rw [hc]; exact h
theorem qbindS {α β:Type} {Q:β→Prop} {x:Option α} {f:α→Option β} (a:α) (h:x=some a) (k:Yes (f a) Q):Yes (x.bind f) Q:=by rw [h]; exact k
theorem quo_nnS {a b:Int} (ha:0 ≤ a) (ha2:a ≤ 9223372036854775807) (hb:0 < b):quo64 a b=some (a / b):=by
 unfold quo64
 rw [if_neg (by omega),Int.tdiv_eq_ediv_of_nonneg ha,w64_id]
 ·have:=Int.ediv_nonneg ha (Int.le_of_lt hb); omega
 ·exact Int.le_trans (Int.ediv_le_self b ha) ha2
theorem min64_eqS (a b:Int):min64 a b=min a b:=by unfold min64; omega
theorem max64_eqS (a b:Int):max64 a b=max a b:=by unfold max64; omega

theorem qremS {a b:Int} (ha:0 ≤ a) (hb:0 < b):rem64 a b=some (a % b):=by
 unfold rem64
 rw [if_neg (by omega),Int.tmod_eq_emod_of_nonneg ha]
theorem mul_leS {a b A B:Int} (ha:0 ≤ a) (hA:a ≤ A) (hb:0 ≤ b) (hB:b ≤ B):0 ≤ a * b∧a * b ≤ A * B:=
 ⟨Int.mul_nonneg ha hb,Int.mul_le_mul hA hB hb (Int.le_trans ha hA)⟩
def btwS (a b x:Int):Bool:=decide (a ≤ x∧x ≤ b)
theorem btw_iffS {a b x:Int}:btwS a b x=true ↔ a ≤ x∧x ≤ b:=by simp [btwS]
theorem s42S (x a b:Int):f108 x a b=some (!btwS a b x):=by unfold f108 btwS; by_cases h1:x < a <;> by_cases h2:x > b <;> simp [h1,h2] <;> omega
theorem s34S (xs:List Int) (φ:Int→Option Bool) (p:Int→Bool) (hl:xs.length < 9223372036854775807) (h:∀ a ∈ xs,φ a=some (p a)):f72 xs φ=some (xs.any p):=
 Yes.eq (Yes.bind (Yes.mono (index_is xs φ p hl h) fun _ hr=>Yes.some (index_any hr)))
theorem s21S (a b:Int) (xs:List Int) (hl:xs.length < 9223372036854775807):f63 a b xs=some (xs.all (btwS a b)):=by
 unfold f63
 rw [s34S xs _ (fun x=>!btwS a b x) hl fun x _=>s42S x a b]
 simp [List.all_eq_not_any_not]
theorem s24S (x y:Int):f66 x y=some (if x < y then -1 else if y < x then 1 else 0):=by
 have h:∀ z,f110 z=some false:=fun z=>by simp [f110]
 unfold f66
 rw [h,h]
 simp only [Option.bind_some,jn,cond_false]
 by_cases h1:x < y
 ·simp [h1]
 ·by_cases h2 : y < x
  ·simp [h1,h2]
  ·simp [h1,h2]
abbrev ElS:=Int

section
variable {α:Type} (key:α→Int)
def StabS (xs ys:List α):Prop:=∀ v:Int,xs.filter (fun x=>key x == v)=ys.filter (fun x=>key x == v)
end
section
variable {α:Type} (key:α→Int)
def SrtS (xs:List α):Prop:=xs.Pairwise fun a b=>key a ≤ key b
end
section
variable {α:Type} (key:α→Int)
variable {key}
theorem StabS.refl (xs:List α):StabS key xs xs:=fun _=>rfl
end
section
variable {α:Type} (key:α→Int)
variable {key}
theorem StabS.trans {xs ys zs:List α} (h:StabS key xs ys) (k:StabS key ys zs):StabS key xs zs:=fun v=>(h v).trans (k v)
end
section
variable {α:Type} (key:α→Int)
variable {key}
theorem StabS.app {a a' b b':List α} (h:StabS key a a') (k:StabS key b b'):StabS key (a ++ b) (a' ++ b'):=fun v=>by rw [List.filter_append,List.filter_append,h v,k v]
end
section
variable {α:Type} (key:α→Int)
variable {key}
theorem StabS.mem {xs ys:List α} (h:StabS key xs ys) {x:α} (hx:x ∈ ys):x ∈ xs:=by
 have h1:x ∈ ys.filter (fun y=>key y == key x):=List.mem_filter.2 ⟨hx,by simp⟩
 rw [← h (key x)] at h1
 exact (List.mem_filter.1 h1).1
end
section
variable {α:Type} (key:α→Int)
variable {key}
theorem StabS.swap {a b:List α} (h:∀ x ∈ a,∀ y ∈ b,key y < key x):StabS key (a ++ b) (b ++ a):=fun v=>by
 rw [List.filter_append,List.filter_append]
 by_cases hb:b.filter (fun x=>key x == v)=[]
 ·rw [hb]; simp
 ·have ha:a.filter (fun x=>key x == v)=[]:=List.filter_eq_nil_iff.2 fun x hx hk=>by
   obtain ⟨y,hy⟩:=List.exists_mem_of_ne_nil _ hb
   obtain ⟨hy1,hy2⟩:=List.mem_filter.1 hy
   have:=h x hx y hy1
   simp at hk hy2
   omega
  rw [ha]; simp
end
section
variable {α:Type} (key:α→Int)
variable {key}
theorem srt_appS {a b:List α}:SrtS key (a ++ b) ↔ SrtS key a∧SrtS key b∧∀ x ∈ a,∀ y ∈ b,key x ≤ key y:=List.pairwise_append
end
section
variable {α:Type} (key:α→Int)
variable {key}
variable {α:Type}
theorem get_atS {p s:List α} {x:α} {i:Nat} (hi:i=p.length) (h:i < (p ++ x :: s).length):(p ++ x :: s)[i]=x:=by subst hi; simp
end
section
variable {α:Type} (key:α→Int)
variable {key}
variable {α:Type}
theorem set_atS {p s:List α} {x y:α} {i:Nat} (hi:i=p.length):(p ++ x :: s).set i y=p ++ y :: s:=by subst hi; simp
end
section
variable {α:Type} (key:α→Int)
variable {key}
variable {α:Type}
variable {β:Type} {Q:β→Prop} {K:List ElS→Option β} {m A B C:List ElS} {u v:ElS} {a b:Int}
theorem get_loS {i:Nat} (hi:i=A.length) (h:i < (A ++ u :: (B ++ v :: C)).length):(A ++ u :: (B ++ v :: C))[i]=u:=get_atS hi h
end
section
variable {α:Type} (key:α→Int)
variable {key}
variable {α:Type}
variable {β:Type} {Q:β→Prop} {K:List ElS→Option β} {m A B C:List ElS} {u v:ElS} {a b:Int}
theorem get_hiS {i:Nat} (hi:i=A.length + 1 + B.length) (h:i < (A ++ u :: (B ++ v :: C)).length):(A ++ u :: (B ++ v :: C))[i]=v:=by
 have e:A ++ u :: (B ++ v :: C)=(A ++ u :: B) ++ v :: C:=by simp
 simp only [e]
 exact get_atS (by simp; omega) _
end
section
variable {α:Type} (key:α→Int)
variable {key}
variable {α:Type}
variable {β:Type} {Q:β→Prop} {K:List ElS→Option β} {m A B C:List ElS} {u v:ElS} {a b:Int}
theorem set_loS {i:Nat} (hi:i=A.length) (y:ElS):(A ++ u :: (B ++ v :: C)).set i y=A ++ y :: (B ++ v :: C):=set_atS hi
end
section
variable {α:Type} (key:α→Int)
variable {key}
variable {α:Type}
variable {β:Type} {Q:β→Prop} {K:List ElS→Option β} {m A B C:List ElS} {u v:ElS} {a b:Int}
theorem set_hiS {i:Nat} (hi:i=A.length + 1 + B.length) (y:ElS):(A ++ u :: (B ++ v :: C)).set i y=A ++ u :: (B ++ y :: C):=by
 have e:∀ z,A ++ u :: (B ++ z :: C)=(A ++ u :: B) ++ z :: C:=fun z=>by simp
 rw [e,e]
 exact set_atS (by simp; omega)
end
section
variable {α:Type} (key:α→Int)
variable {key}
variable {α:Type}
variable {β:Type} {Q:β→Prop} {K:List ElS→Option β} {m A B C:List ElS} {u v:ElS} {a b:Int}
theorem swapHiS (hm : m = A ++ u :: (B ++ v :: C)) (ha : a = ((A.length + 1 + B.length : Nat) : Int)) (hb : b = (A.length : Int)) (hk : Yes (K (A ++ v :: (B ++ u :: C))) Q) :
  Yes ((idx m b).bind fun y1=>(idx m a).bind fun y2=>(idx m a).bind fun _=>(idx (List.set m (Int.toNat a) y1) b).bind fun _=>K (List.set (List.set m (Int.toNat a) y1) (Int.toNat b) y2)) Q:=by
 subst hm
 refine Yes.bind (Yes.idx hb (by simp) (Yes.bind (Yes.idx ha (by simp; omega) (Yes.bind (Yes.idx ha (by simp; omega) (Yes.bind (Yes.idx hb (by simp) ?_)))))))
 subst ha; subst hb
 rw [get_hiS rfl,get_loS rfl,Int.toNat_natCast,Int.toNat_natCast,set_hiS rfl,set_loS rfl]
 exact hk
end
section
variable {α:Type} (key:α→Int)
variable {key}
variable {α:Type}
variable {β:Type} {Q:β→Prop} {K:List ElS→Option β} {m A B C:List ElS} {u v:ElS} {a b:Int}
theorem s68S {φ:ElS→ElS→Option Int} {key:ElS→Int} {xs P X S:List ElS} (hφ:∀ x y,x ∈ xs→y ∈ xs→∃ c,φ x y=some c∧(c < 0 ↔ key x < key y)) {a b:Int} (hm:xs=P ++ X ++ S) (ha:a=P.length) (hb:b=((P.length + X.length:Nat):Int)) (hs:xs.length < 1000000):Yes (f146 xs a b φ) fun r=>∃ Y,r=P ++ Y ++ S∧StabS key X Y∧SrtS key Y:=by
 have hlen:P.length + X.length + S.length < 1000000:=by rw [hm] at hs; simp at hs; omega
 unfold f146
 subst ha; subst hb
 rw [w64_id (by omega) (by omega)]
 by_cases h0:X=[]
 ·subst h0
  refine Yes.lp (fun s=>s.1=xs∧s.2=(P.length:Int) + 1) (fun _=>0) ⟨rfl,rfl⟩ (by decide) ?_
  rintro ⟨r,j⟩ k ⟨h1,h2⟩ hk
  simp only at h1 h2
  subst h1; subst h2
  exact Yes.jn (Yes.cond (fun h=>absurd h (by simp; omega)) (fun _=>Yes.some ⟨[],by rw [hm],StabS.refl _,List.Pairwise.nil⟩))
 obtain ⟨x0,X0,rfl⟩:=List.exists_cons_of_ne_nil h0
 have hXl:(x0 :: X0).length=X0.length + 1:=rfl
 refine Yes.lp (fun s => ∃ X1 Z Y : List ElS, X0 = X1 ++ Z ∧ s.1 = P ++ Y ++ Z ++ S ∧ Y.length = X1.length + 1 ∧ s.2 = ((P.length + Y.length : Nat) : Int) ∧ StabS key (x0 :: X1) Y ∧ SrtS key Y) (fun s => (P.length + X0.length + 2) - s.2.toNat)
  ⟨[],X0,[x0],rfl,by rw [hm]; simp,rfl,by simp,StabS.refl _,List.pairwise_singleton _ _⟩ (by simp only; omega) ?_
 rintro ⟨r,j⟩ k ⟨X1,Z,Y,hX,h1,hY,h2,hst,hsr⟩ hk
 simp only at h1 h2 hk
 subst h2
 have hXl2:X0.length=X1.length + Z.length:=by rw [hX]; simp
 refine Yes.jn (Yes.cond (fun hlt=>Yes.bind ?_) (fun hge=>Yes.some ?_))
 rotate_left
 ·have hz : Z = [] := List.length_eq_zero_iff.1 (by simp at hge; omega)
  subst hz
  exact ⟨Y,by rw [h1]; simp,by rw [hX]; simpa using hst,hsr⟩
 have hzl:0 < Z.length:=by simp at hlt; omega
 obtain ⟨z,Z',rfl⟩:=List.exists_cons_of_ne_nil (List.length_pos_iff.1 hzl)
 simp only [List.length_cons] at hXl2
 refine Yes.lp (fun s => ∃ Y1 Y2 : List ElS, Y = Y1 ++ Y2 ∧ s.1 = P ++ Y1 ++ z :: Y2 ++ Z' ++ S ∧ s.2 = ((P.length + Y1.length : Nat) : Int) ∧ ∀ y ∈ Y2, key z < key y) (fun s => s.2.toNat)
  ⟨Y,[],by simp,by rw [h1]; simp,rfl,fun y hy=>by cases hy⟩ (by simp only; omega) ?_
 rintro ⟨r2,j⟩ k2 ⟨Y1,Y2,hYe,h3,h4,hY2⟩ hk2
 simp only at h3 h4 hk2
 subst h4
 have hYl:Y.length=Y1.length + Y2.length:=by rw [hYe]; simp
 have hr2:r2.length < 1000000:=by rw [h3]; simp; omega
 have fin:(Y1=[] ∨ ∃ y Y1',Y1=Y1' ++ [y]∧key y ≤ key z)→Yes (some r2) (fun r=>Yes (k (r,w64 (((P.length + Y.length:Nat):Int) + 1))) fun r=>∃ Y,r=P ++ Y ++ S∧StabS key (x0 :: X0) Y∧SrtS key Y):=fun hfin=>by
  rw [w64_id (by omega) (by omega)]
  refine Yes.some (hk _ ⟨X1 ++ [z],Z',Y1 ++ z :: Y2,by rw [hX]; simp,by rw [h3]; simp,by simp; omega,by simp; omega,?_,?_⟩ (by simp only; omega))
  ·have e1 : StabS key (x0 :: (X1 ++ [z])) (Y ++ [z]) := hst.app (StabS.refl [z])
   have e2:StabS key (Y2 ++ [z]) ([z] ++ Y2):=StabS.swap fun x hx y hy=>by rw [List.mem_singleton.1 hy]; exact hY2 x hx
   have e3:StabS key (Y1 ++ (Y2 ++ [z])) (Y1 ++ ([z] ++ Y2)):=(StabS.refl Y1).app e2
   refine e1.trans ?_
   rw [hYe,List.append_assoc]
   exact e3
  ·rw [hYe] at hsr
   obtain ⟨s1,s2,s3⟩:=srt_appS.1 hsr
   refine srt_appS.2 ⟨s1,List.pairwise_cons.2 ⟨fun y hy=>by have:=hY2 y hy; omega,s2⟩,fun x hx y hy=>?_⟩
   rcases List.mem_cons.1 hy with rfl | hy
   ·rcases hfin with rfl | ⟨q, Q, rfl, hq⟩
    ·cases hx
    ·obtain ⟨_, _, s5⟩ := srt_appS.1 s1
     rcases List.mem_append.1 hx with h | h
     ·have:=s5 x h q (by simp); omega
     ·rw [List.mem_singleton.1 h]; exact hq
   ·exact s3 x hx y hy
 refine Yes.jn (Yes.bind (Yes.cond (fun hgt=>?_) (fun hng=>Yes.some (Yes.cond (fun h=>nomatch h) (fun _=>fin (.inl ?_))))))
 rotate_left
 ·exact List.length_eq_zero_iff.1 (by simp at hng; omega)
 have hY1:0 < Y1.length:=by simp at hgt; omega
 obtain ⟨y,Y1',hY1e⟩:∃ y Y1',Y1=Y1' ++ [y]:=by
  have hne:Y1 ≠ []:=List.length_pos_iff.1 hY1
  exact ⟨Y1.getLast hne,Y1.dropLast,(List.dropLast_concat_getLast hne).symm⟩
 have hY1l:Y1.length=Y1'.length + 1:=by rw [hY1e]; simp
 have e:r2=(P ++ Y1') ++ y :: ([] ++ z :: (Y2 ++ Z' ++ S)):=by rw [h3,hY1e]; simp
 have hA:(P ++ Y1').length=P.length + Y1'.length:=by simp
 rw [w64_id (n:=((P.length + Y1.length:Nat):Int) - 1) (by omega) (by omega)]
 have hi1:P.length + Y1.length < r2.length:=by rw [h3]; simp
 have hi0:P.length + Y1'.length < r2.length:=by omega
 refine Yes.bind (Yes.idx (n:=P.length + Y1.length) rfl hi1 (Yes.bind (Yes.idx (n:=P.length + Y1'.length) (by omega) hi0 ?_)))
 have g1:r2[P.length + Y1.length]=z:=by simp only [e]; exact get_hiS (by rw [hA]; simp; omega) _
 have g0:r2[P.length + Y1'.length]=y:=by simp only [e]; exact get_loS (by rw [hA]) _
 rw [g1,g0]
 obtain ⟨c,hφc,hcl⟩:=hφ z y (by rw [hm,hX]; simp) (by rw [hm]; have:=hst.mem (x:=y) (by rw [hYe,hY1e]; simp); rw [hX]; simp at this ⊢; grind)
 refine Yes.bind (Yes.of hφc (Yes.some (Yes.cond (fun hc=>?_) (fun hc=>fin (.inr ⟨y,Y1',hY1e,?_⟩)))))
 rotate_left
 ·simp at hc; omega
 have hc:key z < key y:=by simp at hc; omega
 refine Yes.jn (Yes.bind (swapHiS e (by rw [hA]; simp; omega) (by rw [hA]; omega) (Yes.some ?_)))
 refine hk2 _ ⟨Y1',y :: Y2,by rw [hYe,hY1e]; simp,by simp,by omega,fun q hq=>?_⟩ (by simp only; omega)
 rcases List.mem_cons.1 hq with rfl | hq
 ·exact hc
 ·exact hY2 q hq
end
def rngS (n:Nat):List Int:=(List.range n).map fun i:Nat=>(i:Int)
theorem rng_lenS (n:Nat):(rngS n).length=n:=by simp [rngS]
theorem mem_rngS {n:Nat} {x:Int}:x ∈ rngS n ↔ 0 ≤ x∧x < (n:Int):=by
 unfold rngS
 rw [List.mem_map]
 constructor
 ·rintro ⟨i,hi,rfl⟩; have:=List.mem_range.1 hi; omega
 ·intro h; exact ⟨x.toNat,List.mem_range.2 (by omega),by omega⟩
theorem rng_ascS (n:Nat):(rngS n).Pairwise (· < ·):=by
 unfold rngS
 rw [List.pairwise_map]
 exact List.pairwise_lt_range.imp fun h=>by omega
theorem rng_getS {n i:Nat} (h:i < (rngS n).length):(rngS n)[i]=(i:Int):=by simp [rngS]
section
variable {key:Int→Int} {n:Nat} {o:List Int}
def precS (key:Int→Int) (j i:Int):Prop:=key j < key i ∨ key j=key i∧j < i
end
section
variable {key:Int→Int} {n:Nat} {o:List Int}
noncomputable def rankS (key:Int→Int) (n:Nat) (i:Int):Nat:=(rngS n).countP fun j=>decide (precS key j i)
end
section
variable {key:Int→Int} {n:Nat} {o:List Int}
theorem ord_permS (h:StabS key (rngS n) o):(rngS n).Perm o:=by
 rw [List.perm_iff_count]
 intro a
 have h1:=congrArg (List.count a) (h (key a))
 rwa [List.count_filter (by simp),List.count_filter (by simp)] at h1
end
section
variable {key:Int→Int} {n:Nat} {o:List Int}
theorem ord_precS (h:StabS key (rngS n) o) (hs:SrtS key o):o.Pairwise (precS key):=by
 rw [List.pairwise_iff_forall_sublist]
 intro a b hab
 have h1:key a ≤ key b:=by
  have:=List.pairwise_iff_forall_sublist.1 hs hab
  exact this
 rcases Int.lt_or_eq_of_le h1 with h2 | h2
 ·exact .inl h2
 ·refine .inr ⟨h2, ?_⟩
  have h3:=hab.filter (fun x=>key x == key a)
  rw [← h (key a)] at h3
  have h4:[a,b].filter (fun x=>key x == key a)=[a,b]:=by simp [h2]
  rw [h4] at h3
  exact List.pairwise_iff_forall_sublist.1 (rng_ascS n) (h3.trans List.filter_sublist)
end
section
variable {key:Int→Int} {n:Nat} {o:List Int}
theorem prec_irrS (i:Int):¬ precS key i i:=fun h=>by rcases h with h | h <;> omega
end
section
variable {key:Int→Int} {n:Nat} {o:List Int}
theorem prec_asymS {i j:Int} (h:precS key i j):¬ precS key j i:=fun k=>by rcases h with h | h <;> rcases k with k | k <;> omega
end
section
variable {key:Int→Int} {n:Nat} {o:List Int}
theorem ord_rankS (h:StabS key (rngS n) o) (hs:SrtS key o) {A B:List Int} {i:Int} (ho:o=A ++ i :: B):rankS key n i=A.length:=by
 unfold rankS
 rw [(ord_permS h).countP_eq]
 have hp:=ord_precS h hs
 rw [ho] at hp ⊢
 obtain ⟨_,h2,h3⟩:=List.pairwise_append.1 hp
 obtain ⟨h4,_⟩:=List.pairwise_cons.1 h2
 rw [List.countP_append,List.countP_cons]
 have e1:A.countP (fun j=>decide (precS key j i))=A.length:=List.countP_eq_length.2 fun a ha=>by simpa using h3 a ha i (by simp)
 have e2:B.countP (fun j=>decide (precS key j i))=0:=List.countP_eq_zero.2 fun b hb=>by simpa using prec_asymS (h4 b hb)
 rw [e1,e2]
 simp [prec_irrS i]
end
section
variable {key:Int→Int} {n:Nat} {o:List Int}
theorem ord_nodupS (h:StabS key (rngS n) o):o.Nodup:=by
 have:(rngS n).Nodup:=(rng_ascS n).imp fun h=>by omega
 exact (ord_permS h).nodup_iff.1 this
end
section
variable {key:Int→Int} {n:Nat} {o:List Int}
theorem ord_takeS (h:StabS key (rngS n) o) (hs:SrtS key o) {i:Int} (hi:0 ≤ i∧i < (n:Int)) (k:Nat):(o.take k).count i=if rankS key n i < k then 1 else 0:=by
 have hm:i ∈ o:=(ord_permS h).mem_iff.1 (mem_rngS.2 hi)
 obtain ⟨A,B,ho⟩:=List.append_of_mem hm
 rw [ord_rankS h hs ho]
 have hn:=ord_nodupS h
 rw [ho] at hn ⊢
 obtain ⟨_,h2,h3⟩:=List.nodup_append.1 hn
 have hA:i ∉ A:=fun ha=>h3 i ha i (by simp) rfl
 have hB:i ∉ B:=(List.nodup_cons.1 h2).1
 by_cases hk:A.length < k
 ·rw [if_pos hk, List.take_append, List.take_of_length_le (by omega)]
  obtain ⟨m,hm⟩:∃ m,k - A.length=m + 1:=⟨k - A.length - 1,by omega⟩
  rw [hm,List.take_succ_cons,List.count_append,List.count_cons_self,List.count_eq_zero.2 hA,List.count_eq_zero.2 fun hb=>hB (List.mem_of_mem_take hb)]
 ·rw [if_neg hk, List.take_append_of_le_length (by omega)]
  exact List.count_eq_zero.2 fun ha=>hA (List.mem_of_mem_take ha)
end
section
variable {key:Int→Int} {n:Nat} {o:List Int}
def quoSS (m:Int) (ps:List Int) (i:Int):Int:=m * ps.getD i.toNat 0 / ps.sum
end
section
variable {key:Int→Int} {n:Nat} {o:List Int}
def remSS (m:Int) (ps:List Int) (i:Int):Int:=m * ps.getD i.toNat 0 % ps.sum
end
section
variable {key:Int→Int} {n:Nat} {o:List Int}
def keySS (m:Int) (ps:List Int) (i:Int):Int:=- remSS m ps i
end
section
variable {key:Int→Int} {n:Nat} {o:List Int}
def leftSS (m:Int) (ps:List Int):Int:=m - ((rngS ps.length).map (quoSS m ps)).sum
end
section
variable {key:Int→Int} {n:Nat} {o:List Int}
structure GoodS (m : Int) (ps : List Int) : Prop where
 m0:0 ≤ m
 m1:m ≤ 1000000000
 l:ps.length ≤ 10
 p:∀ x ∈ ps,0 ≤ x∧x ≤ 1000
 s:0 < ps.sum
end
section
variable {key:Int→Int} {n:Nat} {o:List Int}
theorem sum_boundS : ∀ {ps : List Int}, (∀ x ∈ ps, 0 ≤ x ∧ x ≤ 1000) → 0 ≤ ps.sum ∧ ps.sum ≤ 1000 * ps.length
 | [],_=>by simp
 | x :: ps,h=>by
  have h1:=h x (by simp)
  have h2:=sum_boundS (ps:=ps) fun y hy=>h y (by simp [hy])
  simp only [List.sum_cons,List.length_cons]; omega
end
section
variable {key:Int→Int} {n:Nat} {o:List Int}
variable {m:Int} {ps:List Int}
theorem GoodS.at (g:GoodS m ps) (i:Int):0 ≤ ps.getD i.toNat 0∧ps.getD i.toNat 0 ≤ 1000:=by
 rw [List.getD_eq_getElem?_getD]
 rcases Nat.lt_or_ge i.toNat ps.length with h | h
 ·rw [List.getElem?_eq_getElem h]; exact g.p _ (List.getElem_mem h)
 ·rw [List.getElem?_eq_none h]; simp
end
section
variable {key:Int→Int} {n:Nat} {o:List Int}
variable {m:Int} {ps:List Int}
theorem GoodS.prod (g:GoodS m ps) (i:Int):0 ≤ m * ps.getD i.toNat 0∧m * ps.getD i.toNat 0 ≤ 1000000000000:=by
 have h:=g.at i
 have:=mul_leS g.m0 g.m1 h.1 h.2
 omega
end
section
variable {key:Int→Int} {n:Nat} {o:List Int}
variable {m:Int} {ps:List Int}
theorem GoodS.sum (g:GoodS m ps):ps.sum ≤ 10000:=by have:=(sum_boundS g.p).2; have:=g.l; omega
end
section
variable {key:Int→Int} {n:Nat} {o:List Int}
variable {m:Int} {ps:List Int}
theorem idx_atS {i:Int} (h:0 ≤ i∧i < (ps.length:Int)):idx ps i=some (ps.getD i.toNat 0):=by
 have hl:i.toNat < ps.length:=by omega
 unfold idx; rw [if_pos h.1,List.getD_eq_getElem?_getD,List.getElem?_eq_getElem hl]; rfl
end
section
variable {key:Int→Int} {n:Nat} {o:List Int}
variable {m:Int} {ps:List Int}
theorem s23S (g:GoodS m ps) {i k:Int} (hi:0 ≤ i∧i < (ps.length:Int)) (hk:0 ≤ k∧k < (ps.length:Int)):f65 i k m ps ps.sum=some (if remSS m ps k < remSS m ps i then -1 else if remSS m ps i < remSS m ps k then 1 else 0):=by
 have e1:=g.prod i; have e2:=g.prod k
 unfold f65
 rw [idx_atS hk,idx_atS hi]
 simp only [Option.bind_some]
 rw [w64_id (n:=m * ps.getD k.toNat 0) (by omega) (by omega),w64_id (n:=m * ps.getD i.toNat 0) (by omega) (by omega),qremS e2.1 g.s,qremS e1.1 g.s]
 simp only [Option.bind_some]
 rw [s24S]; rfl
end
section
variable {key:Int→Int} {n:Nat} {o:List Int}
variable {m:Int} {ps:List Int}
theorem s22S (g:GoodS m ps):Yes (f64 (rngS ps.length) (fun a0 a1=>f65 a0 a1 m ps ps.sum)) fun o=>StabS (keySS m ps) (rngS ps.length) o∧SrtS (keySS m ps) o:=by
 have hl:=g.l
 unfold f64
 refine Yes.bind (Yes.mono (Q':=fun o=>StabS (keySS m ps) (rngS ps.length) o∧SrtS (keySS m ps) o) ?_ fun o ho=>Yes.some ho)
 unfold f109
 rw [rng_lenS]
 refine Yes.bind (Yes.mono (Q':=fun r=>r=(rngS ps.length,(0:Int))) ?_ fun r hr=>?_)
 ·refine Yes.lp (fun s => s = (rngS ps.length, (0 : Int), (20 : Int))) (fun _ => 0) rfl (by decide) ?_
  rintro s k rfl hk
  exact Yes.jn (qskipS (by simp; omega) (Yes.some rfl))
 ·subst hr
  simp only
  refine Yes.bind (Yes.mono (s68S (key:=keySS m ps) (xs:=rngS ps.length) (P:=[]) (X:=rngS ps.length) (S:=[]) (fun x y hx hy=>⟨_,s23S g (mem_rngS.1 hx) (mem_rngS.1 hy),?_⟩) (by simp) (by simp) (by simp [rng_lenS]) (by rw [rng_lenS]; omega)) fun o ho=>?_)
  ·unfold keySS
   by_cases h1:remSS m ps y < remSS m ps x
   ·simp [h1]
   ·by_cases h2 : remSS m ps x < remSS m ps y
    ·rw [if_neg h1,if_pos h2]; constructor <;> intro h <;> omega
    ·rw [if_neg h1,if_neg h2]; constructor <;> intro h <;> omega
  ·obtain ⟨Y, rfl, h1, h2⟩ := ho
   simp only [List.nil_append,List.append_nil]
   refine Yes.lp (fun s=>s=(Y,(20:Int))) (fun _=>0) rfl (by decide) ?_
   rintro s k rfl hk
   exact Yes.jn (qskipS (by simp; omega) (Yes.some ⟨h1,h2⟩))
end
section
variable {key:Int→Int} {n:Nat} {o:List Int}
variable {m:Int} {ps:List Int}
theorem rem_sumS (m all : Int) (hall : 0 < all) : ∀ ps : List Int, (ps.map fun p => m * p % all).sum = m * ps.sum - all * (ps.map fun p => m * p / all).sum
 | []=>by simp
 | p :: ps=>by
  have ih:=rem_sumS m all hall ps
  simp only [List.map_cons,List.sum_cons,ih]
  have:=Int.emod_add_mul_ediv (m * p) all
  rw [Int.mul_add,Int.mul_add]; omega
end
theorem rng_succS (n:Nat):rngS (n + 1)=rngS n ++ [(n:Int)]:=by simp [rngS,List.range_succ]
theorem rng_mapS {β:Type} (ps:List Int) (F:Int→β):(rngS ps.length).map (fun i=>F (ps.getD i.toNat 0))=ps.map F:=by
 apply List.ext_getElem (by simp [rng_lenS])
 intro i h1 h2
 rw [List.length_map,rng_lenS] at h1
 simp only [List.getElem_map,rng_getS,Int.toNat_natCast]
 rw [List.getD_eq_getElem?_getD,List.getElem?_eq_getElem h1]; rfl
theorem nz_boundS (all : Int) : ∀ (l : List Int), (∀ r ∈ l, 0 ≤ r ∧ r < all) → 0 ≤ l.sum ∧ l.sum ≤ (l.countP fun r => decide (0 < r)) * (all - 1)
 | [],_=>by simp
 | r :: l,h=>by
  have h1:=h r (by simp)
  have ih:=nz_boundS all l fun x hx=>h x (by simp [hx])
  rw [List.countP_cons,List.sum_cons]
  by_cases h0:0 < r
  ·have e : decide (0 < r) = true := decide_eq_true h0
   rw [e,if_pos rfl]
   rw [show (((l.countP fun r=>decide (0 < r)) + 1:Nat):Int)=((l.countP fun r=>decide (0 < r):Nat):Int) + 1 by omega,Int.add_mul]
   omega
  ·have e : decide (0 < r) = false := decide_eq_false h0
   rw [e]; simp only [Bool.false_eq_true,if_false,Nat.add_zero]; omega
section
variable {m:Int} {ps:List Int}
theorem rem_boundS (g:GoodS m ps) (i:Int):0 ≤ remSS m ps i∧remSS m ps i < ps.sum:=⟨Int.emod_nonneg _ (by have:=g.s; omega),Int.emod_lt_of_pos _ g.s⟩
end
section
variable {m:Int} {ps:List Int}
theorem quo_boundS (g:GoodS m ps) (i:Int):0 ≤ quoSS m ps i∧quoSS m ps i ≤ 1000000000000:=by
 have h:=g.prod i
 exact ⟨Int.ediv_nonneg h.1 (by have:=g.s; omega),Int.le_trans (Int.ediv_le_self _ h.1) h.2⟩
end
section
variable {m:Int} {ps:List Int}
noncomputable def nzSS (m:Int) (ps:List Int):Nat:=(rngS ps.length).countP fun j=>decide (0 < remSS m ps j)
end
section
variable {m:Int} {ps:List Int}
theorem left_sumS (m:Int) (ps:List Int) (hs:0 < ps.sum):ps.sum * leftSS m ps=((rngS ps.length).map (remSS m ps)).sum:=by
 have e1:(rngS ps.length).map (remSS m ps)=ps.map fun p=>m * p % ps.sum:=rng_mapS ps fun p=>m * p % ps.sum
 have e2:(rngS ps.length).map (quoSS m ps)=ps.map fun p=>m * p / ps.sum:=rng_mapS ps fun p=>m * p / ps.sum
 unfold leftSS
 rw [e1,e2,rem_sumS m ps.sum hs ps,Int.mul_sub,Int.mul_comm m ps.sum]
end
section
variable {m:Int} {ps:List Int}
theorem left_boundS (g:GoodS m ps):0 ≤ leftSS m ps∧leftSS m ps ≤ nzSS m ps∧(nzSS m ps:Int) ≤ ps.length:=by
 have h1:=left_sumS m ps g.s
 have h2:=nz_boundS ps.sum ((rngS ps.length).map (remSS m ps)) fun r hr=>by obtain ⟨i,_,rfl⟩:=List.mem_map.1 hr; exact rem_boundS g i
 rw [← h1,List.countP_map] at h2
 have h3:(List.countP ((fun r=>decide (0 < r)) ∘ remSS m ps) (rngS ps.length))=nzSS m ps:=rfl
 rw [h3] at h2
 have hs:=g.s
 refine ⟨?_,?_,?_⟩
 ·by_cases h : 0 ≤ leftSS m ps
  ·exact h
  ·have : ps.sum * leftSS m ps < 0 := Int.mul_neg_of_pos_of_neg hs (by omega)
   omega
 ·have h4:(nzSS m ps:Int) * (ps.sum - 1) ≤ ps.sum * (nzSS m ps:Int):=by
   rw [Int.mul_sub,Int.mul_comm]; omega
  exact Int.le_of_mul_le_mul_left (Int.le_trans h2.2 h4) hs
 ·have : nzSS m ps ≤ (rngS ps.length).length := List.countP_le_length
  rw [rng_lenS] at this; omega
end
section
variable {m:Int} {ps:List Int}
noncomputable def shareSS (m:Int) (ps:List Int):List Int:=(rngS ps.length).map fun i=>quoSS m ps i + if rankS (keySS m ps) ps.length i < (leftSS m ps).toNat then 1 else 0
end
section
variable {m:Int} {ps:List Int}
theorem share_lenS (m:Int) (ps:List Int):(shareSS m ps).length=ps.length:=by simp [shareSS,rng_lenS]
end
section
variable {m:Int} {ps:List Int}
theorem share_atS {i:Nat} (h:i < (shareSS m ps).length):(shareSS m ps)[i]=quoSS m ps i + if rankS (keySS m ps) ps.length i < (leftSS m ps).toNat then 1 else 0:=by
 simp only [shareSS,List.getElem_map,rng_getS]
end
section
variable {m:Int} {ps:List Int}
theorem sums_boundS (g : GoodS m ps) : ∀ i : Nat, 0 ≤ ((rngS i).map (quoSS m ps)).sum ∧ ((rngS i).map (quoSS m ps)).sum ≤ 1000000000000 * i
 | 0=>by simp [rngS]
 | i + 1=>by
  have ih:=sums_boundS g i
  have:=quo_boundS g i
  rw [rng_succS,List.map_append,List.sum_append]
  simp only [List.map_cons,List.map_nil,List.sum_cons,List.sum_nil]
  omega
end
section
variable {m:Int} {ps:List Int}
theorem sum_takeS (ps:List Int) {i:Nat} (h:i < ps.length):(ps.take (i + 1)).sum=(ps.take i).sum + ps[i]:=by
 rw [List.take_succ_eq_append_getElem h,List.sum_append]; simp
end
section
variable {m:Int} {ps:List Int}
theorem s7S (g:GoodS m ps):f21 m ps=some (shareSS m ps,0):=by
 have hl:=g.l
 have hsb:=g.sum
 have hm0:=g.m0; have hm1:=g.m1
 refine Yes.eq ?_
 unfold f21
 refine Yes.bind (Yes.mono (Q':=fun r=>r=ps.sum) ?_ fun r hr=>?_)
 ·refine Yes.upto ps.length (by omega) (fun i s => s = (ps.take i).sum) rfl (fun i s k hi hI hk => ?_) (fun s k hI => ?_)
  ·have hx := g.p _ (List.getElem_mem hi)
   have hb:=sum_boundS (ps:=ps.take i) fun x hx=>g.p x (List.mem_of_mem_take hx)
   rw [List.length_take] at hb
   refine qtakeS (by simp; omega) (Yes.bind (Yes.bind (Yes.idx rfl hi (Yes.some ?_))))
   rw [min64_eqS,max64_eqS,show min (max ps[i] 0) 1000=ps[i] by omega,w64_id (by omega) (by omega)]
   exact hk _ (by rw [sum_takeS ps hi,hI])
  ·exact qskipS (by simp) (Yes.some (by rw [hI,List.take_length]))
 subst hr
 refine Yes.jn ?_
 have h21:([m]:List Int).all (btwS 0 1000000000)=true:=by simp [btwS]; omega
 have h22:ps.all (btwS 0 1000)=true:=List.all_eq_true.2 fun x hx=>btw_iffS.2 (g.p x hx)
 rw [s21S _ _ _ (by simp),s21S _ _ _ (by omega),h21,h22]
 refine Yes.bind (Yes.some (qskipS rfl (qskipS (by simp; omega) (Yes.bind (Yes.bind (Yes.some (qskipS rfl (Yes.some (qskipS ?_ ?_)))))))))
 ·have:=g.s; simp; omega
 refine qbindS (List.replicate ps.length 0) (by unfold mks; rw [if_pos ⟨by omega,by omega,by omega⟩]; simp) ?_
 refine Yes.bind (Yes.mono (Q':=fun r=>r=((rngS ps.length).map (quoSS m ps),leftSS m ps,rngS ps.length)) ?_ fun r hr=>?_)
 ·refine Yes.lp (fun s => ∃ i : Nat, s.2.2.2 = i ∧ i ≤ ps.length ∧ s.1 = (rngS i).map (quoSS m ps) ∧ s.2.1 = m - ((rngS i).map (quoSS m ps)).sum ∧ s.2.2.1.length = ps.length ∧ ∀ j (h : j < s.2.2.1.length), j < i → s.2.2.1[j] = (j : Int)) (fun s => ps.length - s.2.2.2.toNat)
   ⟨0,rfl,Nat.zero_le _,rfl,by simp [rngS],by simp,fun _ _ h=>absurd h (Nat.not_lt_zero _)⟩ (by simp only; omega) ?_
  rintro ⟨xs,l,od,i'⟩ k ⟨i,hi,hle,hx,hlft,hol,hod⟩ hk
  simp only at hi hx hlft hol hod
  subst hi
  refine Yes.cond (fun h=>?_) (fun h=>Yes.some ?_)
  ·have hlt : i < ps.length := by simp at h; omega
   have hat:ps[i]=ps.getD (i:Int).toNat 0:=by rw [Int.toNat_natCast,List.getD_eq_getElem?_getD,List.getElem?_eq_getElem hlt]; rfl
   have hp:=g.prod (i:Int)
   have hq:=quo_boundS g (i:Int)
   have hsum:=sums_boundS g i
   refine Yes.bind (Yes.bind (Yes.idx rfl hlt ?_))
   rw [hat,w64_id (n:=m * _) (by omega) (by omega)]
   refine qbindS (quoSS m ps i) (quo_nnS hp.1 (by omega) g.s) ?_
   have hxl:xs.length=i:=by rw [hx]; simp [rng_lenS]
   refine Yes.bind (Yes.apnd (by simp; omega) (by simp; omega) (Yes.bind (Yes.idx rfl (by omega) (Yes.bind (Yes.idx (n:=i) rfl (by simp; omega) (Yes.some ?_))))))
   have he:(xs ++ [quoSS m ps i])[i]'(by simp; omega)=quoSS m ps i:=by rw [List.getElem_append_right (by omega)]; simp [hxl]
   rw [he,w64_id (n:=l - quoSS m ps i) (by omega) (by omega),w64_id (n:=(i:Int) + 1) (by omega) (by omega)]
   refine hk _ ⟨i + 1,by simp,hlt,?_,?_,by simp [hol],fun j hj hji=>?_⟩ (by simp only; omega)
   ·rw [rng_succS,List.map_append,← hx]; rfl
   ·simp only; rw [rng_succS,List.map_append,List.sum_append,hlft]; simp; omega
   ·simp only [Int.toNat_natCast] at hj ⊢
    rw [List.getElem_set]
    split
    ·rename_i e; rw [e]
    ·rename_i e
     exact hod j (by simpa using hj) (by omega)
  ·have : i = ps.length := by simp at h; omega
   subst this
   rw [hx,hlft]
   have:od=rngS ps.length:=List.ext_getElem (by rw [hol,rng_lenS]) fun j h1 h2=>by rw [hod j h1 (by omega),rng_getS]
   rw [this]; rfl
 subst hr
 simp only
 refine Yes.bind (Yes.mono (s22S g) fun o ho=>?_)
 obtain ⟨ho1,ho2⟩:=ho
 have hlb:=left_boundS g
 have hol:o.length=ps.length:=by rw [← (ord_permS ho1).length_eq,rng_lenS]
 refine Yes.bind (Yes.mono (Q':=fun r=>r=shareSS m ps) ?_ fun r hr=>by rw [hr]; exact Yes.some rfl)
 refine qbindS (o.take (leftSS m ps).toNat) (by unfold cut; rw [if_pos ⟨by omega,hlb.1,by omega⟩]; rfl) ?_
 refine Yes.upto (o.take (leftSS m ps).toNat).length (by rw [List.length_take]; omega) (fun j s=>s.length=ps.length∧∀ i (h:i < s.length),s[i]=quoSS m ps i + (((o.take (leftSS m ps).toNat).take j).count (i:Int):Nat)) ⟨by simp [rng_lenS],fun i h=>by simp [rng_getS]⟩ (fun j s k hj hI hk=>?_) (fun s k hI=>?_)
 ·obtain ⟨hsl, hI⟩ := hI
  have hmem:(o.take (leftSS m ps).toNat)[j] ∈ rngS ps.length:=(ord_permS ho1).mem_iff.2 (List.mem_of_mem_take (List.getElem_mem hj))
  obtain ⟨h0,h1⟩:=mem_rngS.1 hmem
  obtain ⟨x,hx⟩:∃ x,x=(o.take (leftSS m ps).toNat)[j]:=⟨_,rfl⟩
  rw [← hx] at h0 h1
  have hq:=quo_boundS g x
  have hxn:x.toNat < s.length:=by omega
  have hcnt:((o.take (leftSS m ps).toNat).take j).count ((x.toNat:Nat):Int) ≤ 10:=by
   refine Nat.le_trans List.count_le_length ?_
   rw [List.length_take,List.length_take]; omega
  refine qtakeS (decide_eq_true (by omega)) (Yes.bind (Yes.bind (Yes.idx rfl hj ?_)))
  rw [← hx]
  have hxe:x=((x.toNat:Nat):Int):=by omega
  refine Yes.bind (Yes.idx (n:=x.toNat) hxe hxn (Yes.bind (Yes.idx (n:=x.toNat) hxe hxn (Yes.some (hk _ ⟨by simp [hsl],fun i hi=>?_⟩)))))
  rw [List.take_succ_eq_append_getElem hj,← hx,List.count_append,List.getElem_set]
  have e0:=hI x.toNat hxn
  rw [show ((x.toNat:Nat):Int)=x by omega] at e0 hcnt
  split
  ·rename_i e
   subst e
   rw [e0,show ((x.toNat:Nat):Int)=x by omega,w64_id (by omega) (by omega)]
   simp; omega
  ·rename_i e
   have hne:¬ x=(i:Int):=fun h=>e (by omega)
   rw [hI i (by simpa using hi)]
   simp [hne]
 ·obtain ⟨hsl, hI⟩ := hI
  refine qskipS (by simp) (Yes.some ?_)
  refine List.ext_getElem (by rw [hsl,share_lenS]) fun i h1 h2=>?_
  have h3:i < ps.length:=by rw [← hsl]; exact h1
  rw [hI i h1,share_atS h2,List.take_length,ord_takeS ho1 ho2 (by omega)]
  split <;> rfl
end
end Go.Proofs.YtlmibfohllgmeaaGreat
