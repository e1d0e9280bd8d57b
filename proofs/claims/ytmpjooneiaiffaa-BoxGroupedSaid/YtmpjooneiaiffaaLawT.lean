/- Plain laws: all picks, one after the other; the colours that the next pick can have. -/
import Derived.Test.YtmpjooneiaiffaaLawS
set_option maxRecDepth 8000
namespace Go.Proofs.Ytmpjooneiaiffaa
open Go.RowKit
open Classical

def row (B1:Nat) (i:Nat):List Gf:=(List.range B1).map fun k:Nat=>⟨(i:Int),(k:Int)⟩
def pkL (B0 B1:Nat):List Gf:=(List.range B0).flatMap (row B1)
def nbx (l:BoxLoom) (s:Nat):Nat:=(l.Boxes.getD s 0).toNat
def Wx (l:BoxLoom):List Gf:=pkL (nbx l 0) (nbx l 1)
theorem Yr {l:BoxLoom} (hl:LOk l) {s:Nat} (hs:s < 2):l.Boxes.getD s 0=(nbx l s:Int)∧1 ≤ nbx l s∧nbx l s ≤ 4:=by
 have:=hl.box hs; unfold nbx; omega
theorem mem_pkL {B0 B1:Nat} {p:Gf}:p ∈ pkL B0 B1 ↔ ∃ i k,i < B0∧k < B1∧p=⟨(i:Int),(k:Int)⟩:=by
 unfold pkL row
 simp only [List.mem_flatMap,List.mem_range,List.mem_map]
 constructor
 ·rintro ⟨i,hi,k,hk,rfl⟩; exact ⟨i,k,hi,hk,rfl⟩
 ·rintro ⟨i,k,hi,hk,rfl⟩; exact ⟨i,hi,k,hk,rfl⟩
theorem okP_nat {l:BoxLoom} (hl:LOk l) {i k:Nat} (hi:i < nbx l 0) (hk:k < nbx l 1):okP l.Boxes ⟨(i:Int),(k:Int)⟩=true:=by
 have h0:=Yr hl (s:=0) (by omega)
 have h1:=Yr hl (s:=1) (by omega)
 refine Uu.2 ⟨⟨?_,?_⟩,?_,?_⟩
 ·show (0:Int) ≤ (i:Int); omega
 ·show (i:Int) ≤ _; rw [h0.1]; omega
 ·show (0:Int) ≤ (k:Int); omega
 ·show (k:Int) ≤ _; rw [h1.1]; omega
theorem Ys {l:BoxLoom} (hl:LOk l) {p:Gf}:p ∈ Wx l ↔ okP l.Boxes p=true:=by
 have h0:=Yr hl (s:=0) (by omega)
 have h1:=Yr hl (s:=1) (by omega)
 unfold Wx
 rw [mem_pkL]
 constructor
 ·rintro ⟨i, k, hi, hk, rfl⟩
  exact okP_nat hl hi hk
 ·intro h
  have:=Uu.1 h
  obtain ⟨L,R⟩:=p
  simp only at this
  refine ⟨L.toNat,R.toNat,by omega,by omega,?_⟩
  rw [Int.toNat_of_nonneg this.1.1,Int.toNat_of_nonneg this.2.1]
theorem s60 {l:BoxLoom} (hl:LOk l):f60 l=some (Wx l):=by
 obtain ⟨e0,a0,b0⟩:=Yr hl (s:=0) (by omega)
 obtain ⟨e1,a1,b1⟩:=Yr hl (s:=1) (by omega)
 have i0:idx l.Boxes (0:Int)=some (nbx l 0:Int):=(Rx hl.len (i:=0) (by omega)).trans (by rw [e0])
 have i1:idx l.Boxes (1:Int)=some (nbx l 1:Int):=(Rx hl.len (i:=1) (by omega)).trans (by rw [e1])
 have hlen:∀ i,((List.range i).flatMap (row (nbx l 1))).length=i * nbx l 1:=fun i=>by
  induction i with
  | zero=>simp
  | succ i ih=>rw [List.range_succ,List.flatMap_append,List.length_append,ih,List.flatMap_cons,List.flatMap_nil,List.append_nil,row,List.length_map,List.length_range,Nat.add_mul]; omega
 refine Yes.eq ?_
 unfold f60
 refine Yes.bind (Yes.upto (nbx l 0) (by omega) (fun i s=>s=(List.range i).flatMap (row (nbx l 1))) (by simp) (fun i s k hi hI hk=>?_) (fun s k hI=>?_))
 ·refine Yes.jn (Gj _ i0 (Qr (by simp; omega) (Yes.bind ?_)))
  refine Yes.upto (nbx l 1) (by omega) (fun j t=>t=s ++ (row (nbx l 1) i).take j) (by simp) (fun j t k2 hj hJ hk2=>?_) (fun t k2 hJ=>?_)
  ·have hl2 := hlen i
   have hm:i * nbx l 1 ≤ 16:=Nat.le_trans (Nat.mul_le_mul (Nat.le_of_lt hi) b1) (by omega)
   have htl:t.length ≤ 20:=by rw [hJ,hI]; simp only [List.length_append,List.length_take,hl2]; omega
   refine Yes.jn (Gj _ i1 (Qr (by simp; omega) (Yes.bind (Yes.bind (Yes.apnd (by simp; omega) (by simp; omega) (Yes.some (hk2 _ ?_)))))))
   rw [hJ,List.append_assoc]
   congr 1
   unfold row
   rw [← List.map_take,← List.map_take,List.take_range,List.take_range,Nat.min_eq_left (by omega),Nat.min_eq_left (by omega),List.range_succ,List.map_append]
   rfl
  ·refine Yes.jn (Gj _ i1 (Tw (by simp) (Yes.some (hk _ ?_))))
   rw [hJ,hI,List.range_succ,List.flatMap_append,List.flatMap_cons,List.flatMap_nil,List.append_nil]
   congr 1
   rw [List.take_of_length_le (by simp [row])]
 ·exact Yes.jn (Gj _ i0 (Tw (by simp) (Yes.some (Yes.some hI))))
/-! ### The race of a loom -/
noncomputable def rc (l:BoxLoom):Gu:=⟨Vector.ofFn fun s=>Vector.ofFn fun b=>cx l (s:Nat) (b:Nat),⟨l.At.getD 0 0,l.At.getD 1 0⟩⟩
theorem Eg (l:BoxLoom):Ep (rc l) l:=⟨fun s b hs hb=>by simp [rc],rfl⟩
theorem rc_p {l:BoxLoom} (hl:LOk l) {p:Gf} (hp:okP l.Boxes p=true):f97 (rc l) p=some (match Ka l p with | some (n,i,m)=>(rc n,Qy l i + 1,m) | none=>(rc l,0,0)):=by
 obtain ⟨x,hx,h⟩:=s97c (Eg l) hl hp
 rw [hx]
 cases ho:Ka l p with
 | none=>rw [ho] at h; have h:x=(rc l,0,0):=h; rw [h]
 | some y=>
  obtain ⟨n,i,m⟩:=y
  rw [ho] at h
  obtain ⟨h1,h2,h3⟩:=h
  obtain ⟨x1,x2,x3⟩:=x
  simp only at h1 h2 h3
  rw [h1.one (Eg n),h2,h3]
theorem s54r {l:BoxLoom} (hl:LOk l):f54 ⟨l⟩ (fun a0 a1=>f55 a0 a1)=some (rc l):=by
 obtain ⟨x,hx,h⟩:=s54c hl
 rw [hx,h.one (Eg l)]
theorem s56 {l:BoxLoom} (hl:LOk l):f56 ⟨l⟩=some ⟨(nbx l 0:Int),(nbx l 1:Int),⟨⟩⟩:=by
 have i0:idx l.Boxes (0:Int)=some (nbx l 0:Int):=(Rx hl.len (i:=0) (by omega)).trans (by rw [(Yr hl (s:=0) (by omega)).1])
 have i1:idx l.Boxes (1:Int)=some (nbx l 1:Int):=(Rx hl.len (i:=1) (by omega)).trans (by rw [(Yr hl (s:=1) (by omega)).1])
 unfold f56
 show ((idx l.Boxes 0).bind _)=_
 rw [i0,Option.bind_some]
 show ((idx l.Boxes 1).bind _)=_
 rw [i1,Option.bind_some]
/-! ### Going through picks -/
def Bh {σ α : Type} (cons : Di σ α) : List α → σ → Option σ
 | [],s=>some s
 | x :: xs,s=>(cons s x).bind fun r=>bif r.1 then Bh cons xs r.2 else some r.2
theorem runL_cons {σ α:Type} {cons:Di σ α} {x:α} {xs:List α} {s:σ} {Q:σ→Prop} (h:Yes (Bh cons (x :: xs) s) Q):∃ b s',cons s x=some (b,s')∧(b=true→Yes (Bh cons xs s') Q)∧(b=false→Q s'):=by
 obtain ⟨r,hr,hq⟩:=h
 rw [Bh] at hr
 cases hc:cons s x with
 | none=>rw [hc] at hr; cases hr
 | some y=>
  obtain ⟨b,s'⟩:=y
  rw [hc,Option.bind_some] at hr
  refine ⟨b,s',rfl,fun hb=>?_,fun hb=>?_⟩
  ·subst hb; exact ⟨r,hr,hq⟩
  ·subst hb; cases hr; exact hq
theorem Al {σ α : Type} {cons : Di σ α} {φ : σ → α → σ} (h : ∀ s x, cons s x = some (true, φ s x)) : ∀ (xs : List α) (s : σ), Bh cons xs s = some (xs.foldl φ s)
 | [],_=>rfl
 | x :: xs,s=>by rw [Bh,h,Option.bind_some]; exact Al h xs _
noncomputable def stp (l:BoxLoom) (p:Gf):Option (Gf × Tc):=(Ka l p).map fun x=>(p,⟨rc x.1,Qy l x.2.1,x.2.2⟩)
noncomputable def stL (l:BoxLoom):List (Gf × Tc):=(Wx l).filterMap (stp l)
theorem Oi {n i:Nat} (h:i < n):List.range' i (n - i)=i :: List.range' (i + 1) (n - (i + 1)):=by
 rw [show n - i=(n - (i + 1)) + 1 by omega,List.range'_succ]
theorem s98 {l:BoxLoom} (hl:LOk l) {σ:Type} {cons:Di σ (Gf × Tc)} {s0:σ} {Q:σ→Prop} (h:Yes (Bh cons (stL l) s0) Q):Yes (f98 ⟨⟨(nbx l 0:Int),(nbx l 1:Int),⟨⟩⟩⟩ (rc l) σ cons s0) Q:=by
 obtain ⟨_,a0,b0⟩:=Yr hl (s:=0) (by omega)
 obtain ⟨_,a1,b1⟩:=Yr hl (s:=1) (by omega)
 unfold f98
 refine Yes.upto (nbx l 0) (by omega) (fun i s=>Yes (Bh cons (((List.range' i (nbx l 0 - i)).flatMap (row (nbx l 1))).filterMap (stp l)) s) Q) ?_ (fun i s k hi hI hk=>?_) (fun s k hI=>?_)
 ·rw [Nat.sub_zero,← List.range_eq_range']; exact h
 ·refine Qr (by simp; omega) (Yes.jn ?_)
  rw [Oi hi,List.flatMap_cons,List.filterMap_append] at hI
  refine Yes.upto (nbx l 1) (by omega) (fun j t=>Yes (Bh cons ((((List.range' j (nbx l 1 - j)).map fun k:Nat=>(⟨(i:Int),(k:Int)⟩:Gf)).filterMap (stp l)) ++ ((List.range' (i + 1) (nbx l 0 - (i + 1))).flatMap (row (nbx l 1))).filterMap (stp l)) t) Q) ?_ (fun j t k2 hj hJ hk2=>?_) (fun t k2 hJ=>?_)
  ·rw [Nat.sub_zero,← List.range_eq_range']; exact hI
  ·rw [Oi hj, List.map_cons, List.filterMap_cons] at hJ
   refine Qr (by simp; omega) (Yes.jn (Gj _ (rc_p hl (okP_nat hl hi hj)) ?_))
   cases ho:Ka l ⟨(i:Int),(j:Int)⟩ with
   | none=>
    have hs:stp l ⟨(i:Int),(j:Int)⟩=none:=by unfold stp; rw [ho]; rfl
    rw [hs] at hJ
    exact Yes.bind (Tw rfl (Yes.some (Tw rfl (hk2 _ hJ))))
   | some y=>
    obtain ⟨n,c,m⟩:=y
    have hs:stp l ⟨(i:Int),(j:Int)⟩=some (⟨(i:Int),(j:Int)⟩,⟨rc n,Qy l c,m⟩):=by unfold stp; rw [ho]; rfl
    rw [hs,List.cons_append] at hJ
    obtain ⟨b,s',h1,h2,h3⟩:=runL_cons hJ
    have hcl:=Bg hl c
    refine Yes.bind (Qr (decide_eq_true (by show Qy l c + 1 > 0; omega)) ?_)
    show Yes (Option.bind (cons t (⟨(i:Int),(j:Int)⟩,⟨rc n,w64 (Qy l c + 1 - 1),m⟩)) _) _
    rw [show w64 (Qy l c + 1 - 1)=Qy l c by rw [Tl (by omega) (by omega)]; omega,h1,Option.bind_some]
    refine Yes.some ?_
    cases b with
    | true=>exact Tw rfl (hk2 _ (h2 rfl))
    | false=>exact Qr rfl (Yes.some (h3 rfl))
  ·refine Tw (by simp) (hk _ ?_)
   simpa using hJ
 ·refine Tw (by simp) ?_
  simpa [Bh] using hI
/-! ### The colours that the next pick can have -/
noncomputable def hit (l:BoxLoom) (c:Int) (p:Gf):Bool:=match Ka l p with | some x=>decide (Qy l x.2.1=c) | none=>false
def ten:List Int:=(List.range 10).map fun n:Nat=>(n:Int)
noncomputable def cols (l:BoxLoom):List Int:=ten.filter fun c=>(Wx l).any (hit l c)
theorem s47 {l:BoxLoom} (hl:LOk l):f47 l=some (cols l):=by
 obtain ⟨_,a0,b0⟩:=Yr hl (s:=0) (by omega)
 obtain ⟨_,a1,b1⟩:=Yr hl (s:=1) (by omega)
 have hal:(Wx l).length ≤ 16:=by
  have:∀ i,((List.range i).flatMap (row (nbx l 1))).length=i * nbx l 1:=fun i=>by
   induction i with
   | zero=>simp
   | succ i ih=>rw [List.range_succ,List.flatMap_append,List.length_append,ih,List.flatMap_cons,List.flatMap_nil,List.append_nil,row,List.length_map,List.length_range,Nat.add_mul]; omega
  show ((List.range (nbx l 0)).flatMap (row (nbx l 1))).length ≤ 16
  rw [this]
  exact Nat.le_trans (Nat.mul_le_mul b0 b1) (by omega)
 refine Yes.eq ?_
 unfold f47
 refine Yes.bind (Yes.upto 10 (by omega) (fun n s=>s=(ten.take n).filter fun c=>(Wx l).any (hit l c)) (by simp) (fun i s k hi hI hk=>?_) (fun s k hI=>?_))
 ·refine Yes.jn (Qr (decide_eq_true (by omega)) (Yes.bind (Gj _ (s60 hl) (Yes.bind ?_))))
  have hten:ten[i]?=some (i:Int):=by unfold ten; rw [List.getElem?_map,List.getElem?_range hi]; rfl
  have htk:ten.take (i + 1)=ten.take i ++ [(i:Int)]:=by
   obtain ⟨hlt,he⟩:=List.getElem?_eq_some_iff.1 hten
   rw [Kl hlt,he]
  have hsl:s.length ≤ 10:=by rw [hI]; exact Nat.le_trans (List.length_filter_le _ _) (by simp [ten]; omega)
  refine Yes.upto (Wx l).length (by omega) (fun j d=>d=((Wx l).take j).any (hit l (i:Int))) (by simp) (fun j d k2 hj hJ hk2=>?_) (fun d k2 hJ=>?_)
  ·have hp := (Ys hl).1 (List.getElem_mem hj)
   have hhit:((Wx l).take (j + 1)).any (hit l (i:Int))=(d || hit l (i:Int) (Wx l)[j]):=by rw [Kl hj,List.any_append,hJ]; simp
   refine Yes.jn (Qr (by simp; omega) (Yes.bind (Gj _ (Wu hj) (Gj _ (s61 hl hp) ?_))))
   have hu:hit l (i:Int) (Wx l)[j]=match Ka l (Wx l)[j] with | some x=>decide (Qy l x.2.1=(i:Int)) | none=>false:=rfl
   rw [hu] at hhit
   cases ho:Ka l (Wx l)[j] with
   | none=>
    rw [ho] at hhit
    exact Yes.bind (Tw rfl (Yes.some (Tw rfl (Yes.some (hk2 _ (by rw [hhit]; simp))))))
   | some x=>
    obtain ⟨n,c,m⟩:=x
    rw [ho] at hhit
    obtain ⟨_,_,_,hcl,_⟩:=Ja hl hp ho
    replace hhit:((Wx l).take (j + 1)).any (hit l (i:Int))=(d || decide (Qy l c=(i:Int))):=hhit
    refine Yes.bind (Qr rfl (Gj _ (Wu hcl) (Yes.some (Yes.cond (fun hc=>Yes.some (hk2 _ ?_)) (fun hc=>Yes.some (hk2 _ ?_))))))
    ·rw [hhit,Bd hcl]; have:=beq_iff_eq.1 hc; simp [this]
    ·rw [hhit,Bd hcl]; have:=beq_eq_false_iff_ne.1 hc; simp [this]
  ·refine Yes.jn (Tw (by simp) (Yes.some ?_))
   rw [List.take_length] at hJ
   subst hJ
   refine Yes.cond (fun hc=>Yes.bind (Yes.apnd (by simp; omega) (by simp; omega) (Yes.some (hk _ ?_)))) (fun hc=>Yes.some (hk _ ?_))
   ·rw [htk,List.filter_append,hI]; simp [hc]
   ·rw [htk,List.filter_append,hI]; simp [hc]
 ·refine Yes.jn (Tw (decide_eq_false (by omega)) (Yes.some (Yes.some ?_)))
  rw [hI]; rfl
theorem Br:ten.Pairwise (· < ·):=by unfold ten; rw [List.pairwise_map]; exact List.pairwise_lt_range.imp fun h=>by omega
theorem mem_ten {c:Int}:c ∈ ten ↔ 0 ≤ c∧c ≤ 9:=by
 unfold ten; rw [List.mem_map]
 constructor
 ·rintro ⟨n,hn,rfl⟩; have:=List.mem_range.1 hn; omega
 ·intro h; exact ⟨c.toNat,List.mem_range.2 (by omega),by omega⟩
theorem sorted_is {ks:List Int} {p:Int→Bool} (hn:ks.Nodup) (h:∀ c,c ∈ ks ↔ c ∈ ten∧p c=true):(ks.mergeSort fun x y=>decide (x ≤ y))=ten.filter p:=by
 have hnd:(ten.filter p).Nodup:=(Br.imp fun h=>by omega).filter _
 have hperm:ks.Perm (ten.filter p):=(List.perm_ext_iff_of_nodup hn hnd).2 fun c=>by rw [h,List.mem_filter]
 rw [Go.mergeSort_of_perm_i hperm]
 refine List.mergeSort_of_pairwise ?_
 exact (Br.filter p).imp fun h=>by simp; omega
theorem Iq (xs:List (Gf × Tc)):∀ (b:List (Int × Bool)),(b.map (·.1)).Nodup→((xs.foldl (fun b x=>Hg b x.2.colour true) b).map (·.1)).Nodup∧∀ c,c ∈ (xs.foldl (fun b x=>Hg b x.2.colour true) b).map (·.1) ↔ c ∈ b.map (·.1) ∨ ∃ x ∈ xs,x.2.colour=c:=by
 induction xs with
 | nil=>intro b hb; exact ⟨hb,fun c=>by simp⟩
 | cons x xs ih=>
  intro b hb
  have hk:=Rs x.2.colour true b
  have hb':((Hg b x.2.colour true).map (·.1)).Nodup:=by
   rw [hk]; split
   ·exact hb
   ·rename_i hn; exact List.nodup_append.2 ⟨hb,by simp,fun a ha c hc=>by simp at hc; subst hc; exact fun he=>hn (he ▸ ha)⟩
  obtain ⟨h1,h2⟩:=ih _ hb'
  refine ⟨h1,fun c=>?_⟩
  rw [List.foldl_cons,h2,hk]
  split
  ·rename_i hm
   constructor
   ·rintro (h | ⟨y, hy, h⟩)
    ·exact .inl h
    ·exact .inr ⟨y,by simp [hy],h⟩
   ·rintro (h | ⟨y, hy, h⟩)
    ·exact .inl h
    ·rcases List.mem_cons.1 hy with rfl | hy
     ·exact .inl (h ▸ hm)
     ·exact .inr ⟨y,hy,h⟩
  ·rw [List.mem_append, List.mem_singleton]
   constructor
   ·rintro ((h | h) | ⟨y, hy, h⟩)
    ·exact .inl h
    ·exact .inr ⟨x,by simp,h.symm⟩
    ·exact .inr ⟨y,by simp [hy],h⟩
   ·rintro (h | ⟨y, hy, h⟩)
    ·exact .inl (.inl h)
    ·rcases List.mem_cons.1 hy with rfl | hy
     ·exact .inl (.inr h.symm)
     ·exact .inr ⟨y,hy,h⟩
theorem Eh {l:BoxLoom} {c:Int}:(∃ x ∈ stL l,x.2.colour=c) ↔ (Wx l).any (hit l c)=true:=by
 rw [List.any_eq_true]
 unfold stL
 constructor
 ·rintro ⟨x, hx, h⟩
  obtain ⟨p,hp,he⟩:=List.mem_filterMap.1 hx
  refine ⟨p,hp,?_⟩
  unfold stp at he; unfold hit
  cases ho:Ka l p with
  | none=>rw [ho] at he; cases he
  | some y=>rw [ho] at he; cases he; simpa using h
 ·rintro ⟨p, hp, h⟩
  unfold hit at h
  cases ho:Ka l p with
  | none=>rw [ho] at h; cases h
  | some y=>rw [ho] at h; exact ⟨(p,⟨rc y.1,Qy l y.2.1,y.2.2⟩),List.mem_filterMap.2 ⟨p,hp,by unfold stp; rw [ho]; rfl⟩,by simpa using h⟩
theorem hit_ten {l:BoxLoom} (hl:LOk l) {c:Int} (h:(Wx l).any (hit l c)=true):c ∈ ten:=by
 obtain ⟨p,_,h⟩:=List.any_eq_true.1 h
 unfold hit at h
 cases ho:Ka l p with
 | none=>rw [ho] at h; cases h
 | some y=>rw [ho] at h; have:=Bg hl y.2.1; rw [mem_ten]; have:=of_decide_eq_true h; omega
theorem s43 {l:BoxLoom} (hl:LOk l):f43 l=some (cols l,0):=by
 refine Yes.eq ?_
 unfold f43
 refine Gj _ (s51 l hl.sml) (Yes.jn (Tw (by rw [chk0.2 hl]; rfl) (Yes.bind (Gj _ (s56 hl) (Gj _ (s54r hl) ?_)))))
 show Yes ((f98 ⟨⟨(nbx l 0:Int),(nbx l 1:Int),⟨⟩⟩⟩ (rc l) (List (Int × Bool)) (fun b7 x=>some (true,Hg b7 x.2.colour true)) []).bind fun g7=>some g7) _
 refine Yes.bind ?_
 obtain ⟨M,hM⟩:∃ M,M=(stL l).foldl (fun b x=>Hg b x.2.colour true) ([]:List (Int × Bool)):=⟨_,rfl⟩
 refine s98 hl (Yes.of (a:=M) (by rw [hM]; exact Al (fun s x=>rfl) _ _) (Yes.some ?_))
 obtain ⟨h1,h2⟩:=Iq (stL l) [] (by simp)
 rw [← hM] at h1 h2
 have hmem:∀ c,c ∈ M.map (·.1) ↔ c ∈ ten∧(Wx l).any (hit l c)=true:=fun c=>by
  rw [h2,Eh]
  constructor
  ·rintro (h | h)
   ·cases h
   ·exact ⟨hit_ten hl h,h⟩
  ·exact fun h=>.inr h.2
 have hlenM:M.length ≤ 1000000:=by
  have hp:(M.map (·.1)).Perm (ten.filter fun c=>(Wx l).any (hit l c)):=(List.perm_ext_iff_of_nodup h1 ((Br.imp fun h=>by omega).filter _)).2 fun c=>by rw [hmem,List.mem_filter]
  have h3:=hp.length_eq
  have h4:=List.length_filter_le (fun c=>(Wx l).any (hit l c)) ten
  rw [List.length_map] at h3
  have h5:ten.length=10:=rfl
  omega
 refine Gj (cols l) ?_ (Yes.some rfl)
 unfold keysS
 rw [if_pos ⟨hlenM,h1,fun k hk=>by have:=mem_ten.1 ((hmem k).1 hk).1; omega⟩]
 exact congrArg some (sorted_is h1 hmem)
end Go.Proofs.Ytmpjooneiaiffaa
