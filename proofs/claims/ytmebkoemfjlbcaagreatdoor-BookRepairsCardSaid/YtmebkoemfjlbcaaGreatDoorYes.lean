/- What a reader of texts needs of package variables; the library's Cut, Split, LastIndexByte, Atoi as contracts. No program is named here. -/
import Derived.Test.YtmebkoemfjlbcaaGreatDoorIt
import Derived.Shelf.Strconv.AtoiAll
import Derived.Shelf.Strings.Cut
import Derived.Shelf.Strings.Split
import Derived.Shelf.Strings.LastIndex
import Derived.Test.YtmebkoemfjlbcaaGreatDoorAp
namespace Go.Proofs.YtmebkoemfjlbcaaGreatDoor
open Go.RowKit
def CelP (b:Nat) (φ:Value→Prop) (m:Nat→Nat) (w:World):Prop:=b < w.heap.size∧1 ≤ m b∧∃ v,w.cell? ⟨b,0,none⟩=some v∧φ v
theorem CelP.ch {b:Nat} {φ:Value→Prop} {m m':Nat→Nat} {w w':World} (h:CelP b φ m w) (k:Ch m w m' w'):CelP b φ m' w':=by
 obtain ⟨h1,h2,v,h3,h4⟩:=h
 exact ⟨Nat.lt_of_lt_of_le h1 k.size,Nat.le_trans h2 (k.marks b h1),v,(k.cells b h1 0 h2).trans h3,h4⟩
def isI64 (v:Value):Prop:=∃ n,v=.int .i64 n
def isErr (v:Value):Prop:=v=.nilIface ∨ ∃ te pe,v=.iface te pe
structure TabE (bM bP bS bR : Nat) (m : Nat → Nat) (w : World) : Prop where
 tab:TabP bP m w
 max:CelP bM isI64 m w
 syn:CelP bS isErr m w
 rng:CelP bR isErr m w
theorem TabE.ch {bM bP bS bR:Nat} {m m':Nat→Nat} {w w':World} (h:TabE bM bP bS bR m w) (k:Ch m w m' w'):TabE bM bP bS bR m' w':=⟨h.tab.ch k,h.max.ch k,h.syn.ch k,h.rng.ch k⟩

/-! ### Plain forms -/
def cutC (c : UInt8) : List UInt8 → Option (List UInt8 × List UInt8)
 | []=>none
 | b :: l=>bif b == c then some ([],l) else (cutC c l).map fun p=>(b :: p.1,p.2)
def wordsC (c : UInt8) : List UInt8 → List (List UInt8)
 | []=>[[]]
 | b :: l => bif b == c then [] :: wordsC c l else match wordsC c l with
  | []=>[[b]]
  | u :: us=>(b :: u) :: us
theorem cutC_cons (c b:UInt8) (l:List UInt8):cutC c (b :: l)=bif b == c then some ([],l) else (cutC c l).map fun p=>(b :: p.1,p.2):=rfl
theorem wordsC_cons (c b : UInt8) (l : List UInt8) : wordsC c (b :: l) = bif b == c then [] :: wordsC c l else match wordsC c l with
  | []=>[[b]]
  | u :: us=>(b :: u) :: us:=rfl
theorem index_one (c : UInt8) : ∀ l, Lib.index l [c] = match cutC c l with
  | none=>-1
  | some p=>(p.1.length:Int)
 | []=>rfl
 | b :: l=>by
  unfold Lib.index
  have hp:([c].isPrefixOf (b :: l))=(c == b):=by simp [List.isPrefixOf]
  rw [hp,index_one c l,cutC_cons]
  by_cases hb:b=c
  ·subst hb; simp
  ·have h1 : (b == c) = false := by simpa using hb
   have h2:(c == b)=false:=by simpa using fun h=>hb h.symm
   rw [h1,h2]
   cases hc:cutC c l with
   | none=>simp
   | some p=>
    simp only [cond_false,Option.map_some,List.length_cons,Bool.false_eq_true,if_false]
    have:¬ ((p.1.length:Int) == -1)=true:=by simp
    rw [if_neg this]; push_cast; rfl
theorem cutC_some {c : UInt8} : ∀ {l : List UInt8} {p : List UInt8 × List UInt8}, cutC c l = some p → l = p.1 ++ c :: p.2 ∧ c ∉ p.1
 | [],p,h=>by cases h
 | b :: l,p,h=>by
  unfold cutC at h
  by_cases hb:b=c
  ·subst hb; simp at h; subst h; simp
  ·have h1 : (b == c) = false := by simpa using hb
   rw [h1] at h
   simp only [cond_false] at h
   cases hc:cutC c l with
   | none=>rw [hc] at h; cases h
   | some q=>
    rw [hc] at h; injection h with h; subst h
    obtain ⟨h2,h3⟩:=cutC_some hc
    refine ⟨by rw [h2]; rfl,?_⟩
    simp only [List.mem_cons,not_or]
    exact ⟨fun h=>hb h.symm,h3⟩
theorem cutC_none {c : UInt8} : ∀ {l : List UInt8}, cutC c l = none → c ∉ l
 | [],_=>by simp
 | b :: l,h=>by
  unfold cutC at h
  by_cases hb:b=c
  ·subst hb; simp at h
  ·have h1 : (b == c) = false := by simpa using hb
   rw [h1] at h
   simp only [cond_false,Option.map_eq_none_iff] at h
   simp only [List.mem_cons,not_or]
   exact ⟨fun h=>hb h.symm,cutC_none h⟩
theorem cut_one (c : UInt8) (l : List UInt8) : Lib.cut l [c] = match cutC c l with
  | none=>(l,[],false)
  | some p=>(p.1,p.2,true):=by
 unfold Lib.cut
 rw [index_one]
 cases hc:cutC c l with
 | none=>simp
 | some p=>
  obtain ⟨h1,_⟩:=cutC_some hc
  simp only [Int.natCast_nonneg,if_true,Int.toNat_natCast,List.length_singleton]
  rw [h1]
  simp
theorem wordsC_cut (c : UInt8) : ∀ l, wordsC c l = match cutC c l with
  | none=>[l]
  | some p=>p.1 :: wordsC c p.2
 | []=>rfl
 | b :: l=>by
  rw [wordsC_cons,cutC_cons]
  by_cases hb:b=c
  ·subst hb; simp
  ·have h1 : (b == c) = false := by simpa using hb
   rw [h1,wordsC_cut c l]
   cases hc:cutC c l with
   | none=>simp
   | some p=>simp
theorem splitK_words (c : UInt8) : ∀ (k : Nat) (l : List UInt8), l.count c = k → Lib.splitK [c] 0 k l = wordsC c l
 | 0,l,h=>by
  have hn:c ∉ l:=by simpa using List.count_eq_zero.1 h
  rw [wordsC_cut]
  cases hc:cutC c l with
  | none=>rfl
  | some p=>obtain ⟨h1,_⟩:=cutC_some hc; rw [h1] at hn; simp at hn
 | k + 1,l,h=>by
  rw [wordsC_cut]
  unfold Lib.splitK
  rw [index_one]
  cases hc:cutC c l with
  | none=>
   have:=cutC_none hc
   rw [List.count_eq_zero_of_not_mem this] at h; cases h
  | some p=>
   obtain ⟨h1,h2⟩:=cutC_some hc
   have hk:p.2.count c=k:=by
    rw [h1,List.count_append,List.count_eq_zero_of_not_mem h2,List.count_cons] at h
    simp at h; omega
   have hneg:¬ ((p.1.length:Int) == -1)=true:=by simp
   simp only [if_neg hneg,Int.toNat_natCast,Nat.add_zero,List.length_singleton]
   rw [show l.take p.1.length=p.1 by rw [h1]; simp,show l.drop (p.1.length + 1)=p.2 by rw [h1]; simp,splitK_words c k p.2 hk]
end Go.Proofs.YtmebkoemfjlbcaaGreatDoor
/- What a plain function returns: total correctness, step by step. No program is named here. -/
namespace Go.Proofs.YtmebkoemfjlbcaaGreatDoor
open Go.RowKit

def Yes {α:Type} (x:Option α) (Q:α→Prop):Prop:=∃ r,x=some r∧Q r
namespace Yes
variable {α β σ ρ:Type} {Q:α→Prop}
theorem some {a:α} (h:Q a):Yes (Option.some a) Q:=⟨a,rfl,h⟩
theorem bind {x:Option β} {f:β→Option α} (h:Yes x fun b=>Yes (f b) Q):Yes (x.bind f) Q:=by
 obtain ⟨b,rfl,a,ha,hq⟩:=h; exact ⟨a,ha,hq⟩
theorem cond {c:Bool} {x y:Option α} (h1:c=true→Yes x Q) (h2:c=false→Yes y Q):Yes (bif c then x else y) Q:=by
 cases c
 ·exact h2 rfl
 ·exact h1 rfl
theorem jn {k:σ→Option α} {f:(σ→Option α)→Option α} (h:Yes (f k) Q):Yes (Go.Proofs.YtmebkoemfjlbcaaGreatDoor.jn k f) Q:=h
theorem mono {x:Option α} {Q':α→Prop} (h:Yes x Q') (k:∀ a,Q' a→Q a):Yes x Q:=let ⟨a,ha,hq⟩:=h; ⟨a,ha,k a hq⟩
theorem lp_lt {body : (σ → Option α) → σ → Option α} (I : σ → Prop) (μ : σ → Nat)
  (h:∀ s (k:σ→Option α),I s→(∀ s',I s'→μ s' < μ s→Yes (k s') Q)→Yes (body k s) Q):∀ (n:Nat) (s:σ),I s→μ s < n→Yes (Go.Proofs.YtmebkoemfjlbcaaGreatDoor.lp body n s) Q
 | 0,_,_,hm=>absurd hm (Nat.not_lt_zero _)
 | n + 1,s,hi,hm=>by
  rw [lp_succ]
  exact h s _ hi fun s' hi' hm'=>lp_lt I μ h n s' hi' (by omega)
theorem lp {body : (σ → Option α) → σ → Option α} {s : σ} (I : σ → Prop) (μ : σ → Nat) (h0 : I s) (hm : μ s < 18446744073709551616)
  (h:∀ s (k:σ→Option α),I s→(∀ s',I s'→μ s' < μ s→Yes (k s') Q)→Yes (body k s) Q):Yes (Go.Proofs.YtmebkoemfjlbcaaGreatDoor.lp body big s) Q:=lp_lt I μ h _ s h0 (big_pos _ hm)
theorem idx {xs:List α} {i:Int} {n:Nat} (hi:i=n) (hl:n < xs.length) (h:Q xs[n]):Yes (Go.Proofs.YtmebkoemfjlbcaaGreatDoor.idx xs i) Q:=by
 subst hi
 refine ⟨xs[n],?_,h⟩
 unfold Go.Proofs.YtmebkoemfjlbcaaGreatDoor.idx
 rw [if_pos (Int.natCast_nonneg n)]
 exact List.getElem?_eq_getElem hl
theorem apnd {b:Nat} {xs ys:List α} {Q:List α→Prop} (hb:(xs.length + ys.length) * b ≤ 140737488355328) (hl:xs.length + ys.length ≤ 9223372036854775807) (h:Q (xs ++ ys)):Yes (Go.Proofs.YtmebkoemfjlbcaaGreatDoor.apnd b xs ys) Q:=by
 refine ⟨_,?_,h⟩
 unfold Go.Proofs.YtmebkoemfjlbcaaGreatDoor.apnd
 rw [if_pos ⟨hb,hl⟩]
theorem eq {x:Option α} {a:α} (h:Yes x fun r=>r=a):x=Option.some a:=by obtain ⟨r,hr,rfl⟩:=h; exact hr
theorem of {x:Option α} {a:α} (h:x=Option.some a) (hq:Q a):Yes x Q:=⟨a,h,hq⟩
end Yes
theorem w64_id {n:Int} (h1:-9223372036854775808 ≤ n) (h2:n ≤ 9223372036854775807):w64 n=n:=by
 unfold w64; rw [IntKind.wrap_i64]; omega
theorem Yes.upto {σ α : Type} {Q : α → Prop} {body : (σ × Int → Option α) → σ × Int → Option α} {s0 : σ} (n : Nat) (hn : n < 9223372036854775807) (I : Nat → σ → Prop) (h0 : I 0 s0)
  (hb:∀ (i:Nat) (s:σ) (k:σ × Int→Option α),i < n→I i s→(∀ s',I (i + 1) s'→Yes (k (s',w64 ((i:Int) + 1))) Q)→Yes (body k (s,(i:Int))) Q)
  (he:∀ (s:σ) (k:σ × Int→Option α),I n s→Yes (body k (s,(n:Int))) Q):Yes (Go.Proofs.YtmebkoemfjlbcaaGreatDoor.lp body big (s0,0)) Q:=by
 refine Yes.lp (fun s=>∃ i:Nat,s.2=i∧i ≤ n∧I i s.1) (fun s=>n - s.2.toNat) ⟨0,rfl,Nat.zero_le _,h0⟩ (by simp; omega) ?_
 rintro ⟨s,j⟩ k ⟨i,hi,hle,hI⟩ hk
 simp only at hi hI
 subst hi
 by_cases hlt:i < n
 ·refine hb i s k hlt hI fun s' hs' => ?_
  rw [w64_id (by omega) (by omega)]
  refine hk _ ⟨i + 1,by simp,hlt,hs'⟩ ?_
  simp only [Int.toNat_natCast]
  omega
 ·obtain rfl : i = n := by omega
  exact he s k hI
theorem Yes.upto0 {α : Type} {Q : α → Prop} {body : (Int → Option α) → Int → Option α} (n : Nat) (hn : n < 9223372036854775807) (I : Nat → Prop) (h0 : I 0)
  (hb:∀ (i:Nat) (k:Int→Option α),i < n→I i→(I (i + 1)→Yes (k (w64 ((i:Int) + 1))) Q)→Yes (body k (i:Int)) Q)
  (he:∀ (k:Int→Option α),I n→Yes (body k (n:Int)) Q):Yes (Go.Proofs.YtmebkoemfjlbcaaGreatDoor.lp body big 0) Q:=by
 refine Yes.lp (fun s=>∃ i:Nat,s=i∧i ≤ n∧I i) (fun s=>n - s.toNat) ⟨0,rfl,Nat.zero_le _,h0⟩ (by simp; omega) ?_
 rintro s k ⟨i,rfl,hle,hI⟩ hk
 by_cases hlt:i < n
 ·refine hb i k hlt hI fun hs' => ?_
  rw [w64_id (by omega) (by omega)]
  refine hk _ ⟨i + 1,by simp,hlt,hs'⟩ ?_
  simp only [Int.toNat_natCast]
  omega
 ·obtain rfl : i = n := by omega
  exact he k hI
theorem index_is {α : Type} (xs : List α) (φ : α → Option Bool) (p : α → Bool) (hl : xs.length < 9223372036854775807) (h : ∀ a ∈ xs, φ a = some (p a)) :
  Yes (Go.Proofs.YtmebkoemfjlbcaaGreatDoor.jn (σ := Unit) (fun _ => some (-1 : Int)) fun k18 => Go.Proofs.YtmebkoemfjlbcaaGreatDoor.lp (σ := Int) (fun k19 s8 => bif decide (s8 < (xs.length : Int)) then
   Go.Proofs.YtmebkoemfjlbcaaGreatDoor.jn (σ:=Unit) (fun _=>k19 (w64 (s8 + (1:Int)))) fun k28=>(Go.Proofs.YtmebkoemfjlbcaaGreatDoor.idx xs s8).bind fun y=>(φ y).bind fun b=>bif b then some s8 else k28 ()
   else k18 ()) big (0:Int)) (fun r=>(∃ i:Nat,r=i∧∃ h:i < xs.length,p xs[i]=true∧∀ j (hj:j < i),p (xs[j]'(by omega))=false) ∨ (r=-1∧∀ a ∈ xs,p a=false)):=by
 refine Yes.jn (Yes.upto0 xs.length hl (fun i=>∀ j (hj:j < xs.length),j < i→p xs[j]=false) (fun _ _ h=>absurd h (Nat.not_lt_zero _)) (fun i k hi hI hk=>?_) (fun k hI=>?_))
 ·refine Yes.cond (fun _ => Yes.jn (Yes.bind (Yes.idx rfl hi (Yes.bind (Yes.of (h _ (List.getElem_mem hi)) (Yes.cond (fun hp => Yes.some ?_) (fun hp => hk ?_))))))) (fun h => absurd h (by simp; omega))
  ·exact .inl ⟨i,rfl,hi,hp,fun j hj=>hI j (by omega) hj⟩
  ·intro j hj hji
   rcases Nat.lt_succ_iff_lt_or_eq.1 hji with h | rfl
   ·exact hI j hj h
   ·exact hp
 ·refine Yes.cond (fun h => absurd h (by simp)) (fun _ => Yes.some (.inr ⟨rfl, fun a ha => ?_⟩))
  obtain ⟨j,hj,rfl⟩:=List.getElem_of_mem ha
  exact hI j hj hj
theorem index_any {α:Type} {xs:List α} {p:α→Bool} {r:Int} (h:(∃ i:Nat,r=i∧∃ h:i < xs.length,p xs[i]=true∧∀ j (hj:j < i),p (xs[j]'(by omega))=false) ∨ (r=-1∧∀ a ∈ xs,p a=false)):decide (r ≥ (0:Int))=xs.any p:=by
 rcases h with ⟨i,rfl,hi,hp,_⟩ | ⟨rfl,h⟩
 ·have : xs.any p = true := List.any_eq_true.2 ⟨_, List.getElem_mem hi, hp⟩
  rw [this]; simp
 ·have : xs.any p = false := List.any_eq_false.2 fun a ha => by simp [h a ha]
  rw [this]; rfl
end Go.Proofs.YtmebkoemfjlbcaaGreatDoor
