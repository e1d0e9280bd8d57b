/- Laws of plain functions, part 4. -/
import Derived.Test.YtomjodbnpgbjnaaGreatLawM3
set_option maxRecDepth 8000
namespace Go.Proofs.YtomjodbnpgbjnaaGreat
open Go.RowKit
open Classical
theorem s51 {m : LoomMill} {l : List LoomOrder} (g : Good m l) {f : List (Int × LoomRun)} (hf : Days (gm f)) {Ls : List Int} (hL : Ls.Nodup) (hL2 : ∀ x ∈ Ls, 0 ≤ x ∧ x < m.Widths.length) :
  f25 ⟨m,l⟩ Ls f=some (bl l.length (TogP m l (gm f) Ls)):=by
 have hn:=g.l7
 have hp:=pow7 hn
 have hw3:=g.w3
 have hlen:Ls.length < 1000:=by
  have h1:(Ls.map Int.toNat).Nodup:=by
   rw [List.nodup_iff_pairwise_ne,List.pairwise_map]
   exact (List.nodup_iff_pairwise_ne.1 hL).imp_of_mem fun ha hb hne=>by
    have:=hL2 _ ha
    have:=hL2 _ hb
    omega
  have h2:=nodup_lt m.Widths.length (Ls.map Int.toNat) h1 (fun x hx=>by
   obtain ⟨y,hy,rfl⟩:=List.mem_map.1 hx
   have:=hL2 y hy
   omega)
  rw [List.length_map] at h2; omega
 refine Yes.eq ?_
 unfold f25
 rw [shl_bit (show l.length < 62 by omega),Option.bind_some,bl_mks hn,Option.bind_some,bl_idx0,Option.bind_some]
 refine Yes.bind ?_
 refine Yes.rng (fun (s:List Bool) i=>(s,(i:Int))) 0 Ls.length (fun c s=>s=bl l.length (TogP m l (gm f) (Ls.take c))) _ rfl (Nat.zero_le _) (by omega) ?_ (fun c s kk _ hc hI hk'=>?_) (fun s kk hI=>?_)
 ·refine bl_set _ ⟨fun _=>tog_nil.2 rfl,fun _=>rfl⟩ fun x _ hx=>⟨fun h=>h.elim,fun h=>hx (tog_nil.1 h)⟩
 ·subst hI
  have h1:decide ((c:Int) < (Ls.length:Int))=true:=decide_eq_true (Int.ofNat_lt.2 hc)
  obtain ⟨k,hk⟩:∃ k:Nat,Ls[c]=(k:Int):=⟨(Ls[c]).toNat,by have:=hL2 _ (List.getElem_mem hc); omega⟩
  have hkw:k < m.Widths.length:=by have:=hL2 _ (List.getElem_mem hc); omega
  have htake:Ls.take (c + 1)=Ls.take c ++ [(k:Int)]:=by rw [List.take_add_one,List.getElem?_eq_getElem hc,hk]; rfl
  have hkn:(k:Int) ∉ Ls.take c:=fun hm=>by
   obtain ⟨j,hj,hje⟩:=List.getElem_of_mem hm
   rw [List.length_take] at hj
   rw [List.getElem_take,← hk] at hje
   exact List.pairwise_iff_getElem.1 hL j c (by omega) hc (by omega) hje
  simp only [h1,cond_true]
  refine Yes.bind ?_
  rw [idx_at hc,Option.bind_some,hk,s83 g hkw hf,Option.bind_some,bl_len,bl_mks hn,Option.bind_some,bl_len]
  refine Yes.bind ?_
  refine Yes.rng (fun (s:List Bool) i=>(s,(i:Int))) 0 (2 ^ l.length) (fun z s=>s=bl l.length (fun x=>x < z∧TogP m l (gm f) (Ls.take (c + 1)) x)) _ rfl (Nat.zero_le _) (by omega) (bl_ext fun x _=>⟨fun h=>h.elim,fun h=>absurd h.1 (Nat.not_lt_zero _)⟩) (fun z s kk' _ hz hI hk''=>?_) (fun s kk' hI=>?_)
  ·subst hI
   have h2:decide ((z:Int) < ((2 ^ l.length:Nat):Int))=true:=decide_eq_true (Int.ofNat_lt.2 hz)
   have hz128:z < 128:=by omega
   simp only [h2,cond_true]
   refine Yes.bind ?_
   unfold f54
   rw [Option.bind_some]
   refine Yes.bind ?_
   refine s99 hz128 (fun p s => s = bl l.length (fun x => (x < z ∧ TogP m l (gm f) (Ls.take (c + 1)) x) ∨ x = z ∧ ∃ q, q &&& z = q ∧ p < q ∧ CanP m l (FixG (gm f)) k q ∧ TogP m l (gm f) (Ls.take c) (dif z q)))
    (bl_ext fun x hx=>⟨fun h=>.inl h,fun h=>h.elim id fun h=>?_⟩) (fun p s hp' hJ=>?_)
   ·obtain ⟨_, q, hq, hlt, _⟩ := h
    have:=part_le hq
    omega
   ·subst hJ
    have hpz:=part_le hp'
    have hdz:=dif_le z p
    -- the new answer of the set
    have hnew : ∀ v : Bool, (v = true ↔ ∃ q, q &&& z = q ∧ p ≤ q ∧ CanP m l (FixG (gm f)) k q ∧ TogP m l (gm f) (Ls.take c) (dif z q)) →
      (p = 0 → Yes (some ((bl l.length (fun x => (x < z ∧ TogP m l (gm f) (Ls.take (c + 1)) x) ∨ x = z ∧ ∃ q, q &&& z = q ∧ p < q ∧ CanP m l (FixG (gm f)) k q ∧ TogP m l (gm f) (Ls.take c) (dif z q))).set z v))
       fun b=>Yes (kk' (b,w64 ((z:Int) + 1))) fun b=>Yes (some b) fun b=>Yes (kk (b,w64 ((c:Int) + 1))) fun b=>Yes (some b) fun r=>r=bl l.length (TogP m l (gm f) Ls)) ∧
      (p ≠ 0 → (bl l.length (fun x => (x < z ∧ TogP m l (gm f) (Ls.take (c + 1)) x) ∨ x = z ∧ ∃ q, q &&& z = q ∧ p < q ∧ CanP m l (FixG (gm f)) k q ∧ TogP m l (gm f) (Ls.take c) (dif z q))).set z v =
       bl l.length (fun x=>(x < z∧TogP m l (gm f) (Ls.take (c + 1)) x) ∨ x=z∧∃ q,q &&& z=q∧(p - 1) &&& z < q∧CanP m l (FixG (gm f)) k q∧TogP m l (gm f) (Ls.take c) (dif z q))):=by
     intro v hv
     constructor
     ·rintro rfl
      rw [w64_succ (by omega)]
      refine Yes.some (hk'' _ (bl_set _ ?_ fun x hx hxz=>⟨fun h=>?_,fun h=>.inl ⟨by omega,h.2⟩⟩))
      ·rw [hv, htake, tog_step hkn hz128]
       exact ⟨fun ⟨q,a,_,b⟩=>⟨by omega,q,a,b⟩,fun ⟨_,q,a,b⟩=>⟨q,a,Nat.zero_le _,b⟩⟩
      ·rcases h with h | h
       ·exact ⟨by omega,h.2⟩
       ·exact absurd h.1 hxz
     ·intro hp0
      refine bl_set _ ?_ fun x hx hxz=>⟨fun h=>?_,fun h=>?_⟩
      ·rw [hv]
       have hstep:∀ q,q &&& z=q→(p ≤ q ↔ (p - 1) &&& z < q):=fun q hq=>by
        have h1:(p - 1) &&& z ≤ p - 1:=Nat.and_le_left
        constructor
        ·intro h; omega
        ·intro h
         by_cases hlt:q < p
         ·have:=part_next p z q hp' hq hlt; omega
         ·omega
       exact ⟨fun ⟨q,a,b,c'⟩=>.inr ⟨rfl,q,a,(hstep q a).1 b,c'⟩,fun h=>h.elim (fun h=>absurd h.1 (by omega)) fun ⟨_,q,a,b,c'⟩=>⟨q,a,(hstep q a).2 b,c'⟩⟩
      ·exact h.elim .inl fun h=>absurd h.1 hxz
      ·exact h.elim .inl fun h=>absurd h.1 hxz
    obtain ⟨v,hv,hvi⟩:=bl_at (P:=fun x=>(x < z∧TogP m l (gm f) (Ls.take (c + 1)) x) ∨ x=z∧∃ q,q &&& z=q∧p < q∧CanP m l (FixG (gm f)) k q∧TogP m l (gm f) (Ls.take c) (dif z q)) hz
    rw [hv,Option.bind_some]
    by_cases hold:∃ q,q &&& z=q∧p < q∧CanP m l (FixG (gm f)) k q∧TogP m l (gm f) (Ls.take c) (dif z q)
    ·obtain rfl : v = true := hvi.2 (.inr ⟨rfl, hold⟩)
     rw [cond_true,Option.bind_some]
     obtain ⟨h3,h4⟩:=hnew true ⟨fun _=>let ⟨q,a,b,c'⟩:=hold; ⟨q,a,by omega,c'⟩,fun _=>rfl⟩
     exact ⟨_,rfl,h3,h4⟩
    ·obtain rfl:v=false:=by
      cases v with
      | false=>rfl
      | true=>exact absurd (hvi.1 rfl) fun h=>h.elim (fun h=>by omega) fun h=>hold h.2
     obtain ⟨u,hu,hui⟩:=bl_at (P:=CanP m l (FixG (gm f)) k) (show p < 2 ^ l.length by omega)
     rw [cond_false,hu,Option.bind_some]
     by_cases hcan:CanP m l (FixG (gm f)) k p
     ·obtain rfl : u = true := hui.2 hcan
      obtain ⟨x,hx,hxi⟩:=bl_at (P:=TogP m l (gm f) (Ls.take c)) (show dif z p < 2 ^ l.length by omega)
      rw [cond_true,andn64 (lt128_62 hz128) (lt128_62 (by omega)),hx,Option.bind_some,Option.bind_some]
      have hxq:x=true ↔ ∃ q,q &&& z=q∧p ≤ q∧CanP m l (FixG (gm f)) k q∧TogP m l (gm f) (Ls.take c) (dif z q):=by
       rw [hxi]
       constructor
       ·exact fun h=>⟨p,hp',Nat.le_refl _,hcan,h⟩
       ·rintro ⟨q, a, b, c'⟩
        by_cases hpq:p=q
        ·subst hpq; exact c'.2
        ·exact absurd ⟨q,a,by omega,c'⟩ hold
      obtain ⟨h3,h4⟩:=hnew x hxq
      exact ⟨_,rfl,h3,h4⟩
     ·obtain rfl:u=false:=by
       cases u with
       | false=>rfl
       | true=>exact absurd (hui.1 rfl) hcan
      have hxq:false=true ↔ ∃ q,q &&& z=q∧p ≤ q∧CanP m l (FixG (gm f)) k q∧TogP m l (gm f) (Ls.take c) (dif z q):=by
       refine ⟨fun h=>(by cases h),?_⟩
       rintro ⟨q,a,b,c'⟩
       by_cases hpq:p=q
       ·subst hpq; exact absurd c'.1 hcan
       ·exact absurd ⟨q,a,by omega,c'⟩ hold
      rw [cond_false,Option.bind_some]
      obtain ⟨h3,h4⟩:=hnew false hxq
      exact ⟨_,rfl,h3,h4⟩
  ·have h2 : decide (((2 ^ l.length : Nat) : Int) < ((2 ^ l.length : Nat) : Int)) = false := by simp
   simp only [h2,cond_false]
   refine Yes.some (Yes.some ?_)
   rw [w64_succ (by omega)]
   refine hk' _ ?_
   rw [hI]
   exact bl_ext fun x hx=>⟨fun h=>h.2,fun h=>⟨hx,h⟩⟩
 ·have h1 : decide ((Ls.length : Int) < (Ls.length : Int)) = false := by simp
  simp only [h1,cond_false]
  refine Yes.some (Yes.some ?_)
  rw [hI,List.take_length]
def ng:Nat→Option LoomRun:=fun _=>none
theorem days_ng:Days ng:=fun _ _ h=>by cases h
def allL (m:LoomMill):List Int:=nums (2 ^ m.Widths.length - 1)
theorem all_ok (m:LoomMill) (hw:m.Widths.length ≤ 7):∀ x ∈ allL m,0 ≤ x∧x < m.Widths.length:=fun x hx=>by
 obtain ⟨k,rfl,_,h⟩:=nums_nn hx
 rw [all_bit] at h
 have:=of_decide_eq_true h
 omega
theorem s51a {m:LoomMill} {l:List LoomOrder} (g:Good m l):f25 ⟨m,l⟩ (allL m) []=some (bl l.length (TogP m l ng (allL m))):=s51 g (f:=[]) days_ng (nums_nodup _) (all_ok m (by have:=g.w3; omega))
def pg (p:List LoomRun) (i:Nat):Option LoomRun:=p[i]?
def SeqP (p:List LoomRun):Prop:=∀ i,i < p.length→(rn p i).Order=(i:Int)
theorem pg_rn {p:List LoomRun} {i:Nat} (h:i < p.length):pg p i=some (rn p i):=by unfold pg rn; rw [List.getElem?_eq_getElem h]; rfl
theorem freeR_gap {m:LoomMill} {l:List LoomOrder} {x:LoomRun} {i j:Nat} (hi:x.Order=(i:Int)):freeR m l x (j:Int)=x.From + (od l i).Woven + gap m l i j:=by
 unfold freeR endR gap
 rw [hi]
 split <;> omega
theorem find_none {n:Nat} {p:Nat→Bool}:(List.range n).find? p=none ↔ ∀ i,i < n→p i=false:=by
 rw [List.find?_eq_none]
 exact ⟨fun h i hi=>by simpa using h i (List.mem_range.2 hi),fun h x hx=>by simp [h x (List.mem_range.1 hx)]⟩
theorem holds_zero {m:LoomMill} {l:List LoomOrder} {p:List LoomRun} (hl:p.length ≤ l.length):(holdsV m l p).2=0 ↔ (∀ i,i < p.length→oneE m l p i=0)∧∀ i,i < p.length→¬ soonP m l p i:=by
 unfold holdsV
 rw [if_neg (by omega)]
 cases h1:(List.range p.length).find? (fun i=>decide (oneE m l p i ≠ 0)) with
 | some i=>
  have h2:=List.find?_some h1
  have h3:=List.mem_range.1 (List.mem_of_find?_eq_some h1)
  simp only [ne_eq,decide_not,Bool.not_eq_true',decide_eq_false_iff_not] at h2
  exact ⟨fun h=>absurd h h2,fun h=>absurd (h.1 i h3) h2⟩
 | none=>
  have h2:=find_none.1 h1
  have h2':∀ i,i < p.length→oneE m l p i=0:=fun i hi=>by have:=h2 i hi; simpa using this
  simp only
  cases h3:(List.range p.length).find? (fun i=>decide (soonP m l p i)) with
  | some i=>
   have h4:=List.find?_some h3
   have h5:=List.mem_range.1 (List.mem_of_find?_eq_some h3)
   exact ⟨fun h=>absurd h (by simp),fun h=>absurd (of_decide_eq_true h4) (h.2 i h5)⟩
  | none=>
   have h4:=find_none.1 h3
   exact ⟨fun _=>⟨h2',fun i hi=>of_decide_eq_false (h4 i hi)⟩,fun _=>rfl⟩
def HoldF (m:LoomMill) (l:List LoomOrder) (p:List LoomRun):Prop:=∃ K F,Fits m l (fun i=>i < p.length) (FixG (pg p)) K F
theorem holdF_at {m:LoomMill} {l:List LoomOrder} {p:List LoomRun} {S:Nat→Prop} {K:Nat→Nat} {F:Nat→Int} (h:Fits m l S (FixG (pg p)) K F) {i:Nat} (hs:S i) (hi:i < p.length):(rn p i).Loom=(K i:Int)∧(rn p i).From=F i:=
 (h.one i hs).a _ (pg_rn hi)
theorem holds_iff {m:LoomMill} {l:List LoomOrder} (g:Good m l) {p:List LoomRun} (hl:p.length ≤ l.length) (hp:SeqP p):(holdsV m l p).2=0 ↔ HoldF m l p:=by
 have hl7:=g.l7
 rw [holds_zero hl]
 constructor
 ·rintro ⟨h1, h2⟩
  have R:Runs m l p:=runs_of (by omega) h1
  have hone:∀ i,i < p.length→_:=fun i hi=>one_ok (h1 i hi)
  -- all runs before one on its loom leave it room
  have key:∀ (n:Nat) (j:Nat),j < p.length→(rn p j).From.toNat=n→∀ i,i < p.length→pre p i j→freeR m l (rn p i) (j:Int) ≤ (rn p j).From:=by
   intro n
   induction n using Nat.strongRecOn with
   | ind n ih=>
    intro j hj hn i hi hij
    obtain ⟨k,⟨hk,hkj⟩,hkm⟩:=exl_max p.length (fun k=>k < p.length∧pre p k j) (fun k hk=>hk.1) (fun k=>(rn p k).From * 8 + k) ⟨i,hi,hij⟩
    have hpk:prev p k j:=⟨hkj,fun j' hj' hpj' hb=>by
     have h3:=hkm j' ⟨hj',hpj'⟩
     unfold bef at hb
     rw [hp k hk,hp j' hj'] at hb
     omega⟩
    have h3:¬ (rn p j).From < freeR m l (rn p k) (rn p j).Order:=fun h=>h2 j hj ⟨k,hk,hpk,h⟩
    rw [hp j hj] at h3
    by_cases hik:i=k
    ·subst hik; omega
    ·have hg1 := freeR_gap (m := m) (l := l) (j := j) (hp i hi)
     have hg2:=freeR_gap (m:=m) (l:=l) (j:=j) (hp k hk)
     have hg3:=freeR_gap (m:=m) (l:=l) (j:=k) (hp i hi)
     have hgn:=gap_nn (l:=l) g.c.1
     have ht:=gap_tri (l:=l) g.c.1 i k j
     have w1:=(g.od (show k < l.length by omega)).2.2.1
     have hbi:bef (rn p i) (rn p k):=by
      have h4:=hkm i ⟨hi,hij⟩
      unfold bef
      rw [hp i hi,hp k hk]
      omega
     have hki:=(hone k hk).1.2.2
     have hji:=(hone j hj).1.2.2
     have h5:=hgn k j
     have h6:=hgn i j
     have h7:=ih (rn p k).From.toNat (by omega) k hk rfl i hi ⟨hij.1.trans hkj.1.symm,hbi⟩
     omega
  refine ⟨fun i=>(rn p i).Loom.toNat,fun i=>(rn p i).From,fun i hi=>?_,fun i j hi hj hne hk hle=>?_⟩
  ·obtain ⟨h3, _, h5, h6, h7⟩ := hone i hi
   have ho:=hp i hi
   unfold endR at h7
   rw [ho] at h5 h6 h7
   have hln:(((rn p i).Loom.toNat:Nat):Int)=(rn p i).Loom:=by have:=h3.2.1; omega
   refine ⟨by omega,by have:=h3.2.1; omega,fun r hr=>?_,by rw [hln]; exact h5,h6,h7⟩
   rw [pg_rn hi] at hr
   cases hr
   exact ⟨hln.symm,rfl⟩
  ·have hli := (hone i hi).1.2.1
   have hlj:=(hone j hj).1.2.1
   have hlo:(rn p i).Loom=(rn p j).Loom:=by omega
   have hgn:=gap_nn (l:=l) g.c.1
   by_cases hb:bef (rn p i) (rn p j)
   ·have := key _ j hj rfl i hi ⟨hlo, hb⟩
    rw [freeR_gap (hp i hi)] at this
    exact this
   ·have hb2 : bef (rn p j) (rn p i) := (bef_or (by rw [hp i hi, hp j hj]; omega)).resolve_left hb
    have:=key _ i hi rfl j hj ⟨hlo.symm,hb2⟩
    rw [freeR_gap (hp j hj)] at this
    have w1:=(g.od (show j < l.length by omega)).2.2.1
    have:=hgn j i
    omega
 ·rintro ⟨K, F, h⟩
  have hat:∀ i,i < p.length→_:=fun i hi=>holdF_at h hi hi
  constructor
  ·intro i hi
   have h1:=h.one i hi
   obtain ⟨h2,h3⟩:=hat i hi
   have ho:=hp i hi
   have hw:=h1.w
   have he:=h1.e
   have ht:=h1.t
   have hk:=h1.kw
   have go:=g.od h1.il
   unfold oneE
   have hin:inR m l (rn p i):=⟨by rw [ho]; omega,by rw [h2]; omega,by omega⟩
   rw [if_neg (fun k=>k hin),if_neg,if_neg,if_neg]
   ·unfold endR; rw [ho]; omega
   ·rw [ho,h2]; omega
   ·rintro ⟨h4, h5⟩
    rw [ho,hp (i - 1) (by omega)] at h5
    omega
  ·rintro i hi ⟨j, hj, ⟨⟨h1, h2⟩, _⟩, h3⟩
   rw [hp i hi,freeR_gap (hp j hj),(hat i hi).2,(hat j hj).2] at h3
   rw [(hat i hi).1,(hat j hj).1] at h1
   have hne:j ≠ i:=by
    rintro rfl
    exact bef_irr h2
   have hle:F j ≤ F i:=by
    unfold bef at h2
    rw [(hat i hi).2,(hat j hj).2] at h2
    omega
   have:=h.sep j i hj hi hne (by omega) hle
   omega

def Cpl (m:LoomMill) (l:List LoomOrder) (p:List LoomRun):Prop:=∃ K F,Fits m l (fun i=>i < l.length) (FixG (pg p)) K F
theorem cpl_full {m:LoomMill} {l:List LoomOrder} {p:List LoomRun} (hl:p.length=l.length):Cpl m l p ↔ HoldF m l p:=by unfold Cpl HoldF; rw [hl]
theorem pg_app {p:List LoomRun} {r:LoomRun} {i:Nat}:pg (p ++ [r]) i=if i=p.length then some r else pg p i:=by
 unfold pg
 rcases Nat.lt_trichotomy i p.length with h | h | h
 ·rw [if_neg (by omega),List.getElem?_append_left h]
 ·rw [if_pos h,h]; simp
 ·rw [if_neg (by omega),List.getElem?_eq_none (by simp; omega),List.getElem?_eq_none (by omega)]
theorem cpl_child {m : LoomMill} {l : List LoomOrder} {p : List LoomRun} (hl : p.length < l.length) {r : LoomRun} (h : Cpl m l (p ++ [r])) :
  (∃ k:Nat,r.Loom=(k:Int)∧k < m.Widths.length)∧(od l p.length).Early ≤ r.From∧r.From + (od l p.length).Woven ≤ (od l p.length).Late:=by
 obtain ⟨K,F,h⟩:=h
 have h1:=h.one _ hl
 have h2:=h1.a r (by rw [pg_app,if_pos rfl])
 exact ⟨⟨K p.length,h2.1,h1.kw⟩,by rw [h2.2]; exact h1.e,by rw [h2.2]; exact h1.t⟩
theorem cpl_next {m:LoomMill} {l:List LoomOrder} {p:List LoomRun} (hl:p.length < l.length) (h:Cpl m l p):∃ (k:Nat) (d:Int),Cpl m l (p ++ [⟨(p.length:Int),(k:Int),d⟩]):=by
 obtain ⟨K,F,h⟩:=h
 refine ⟨K p.length,F p.length,K,F,h.mono (fun _ h=>h) fun i _ ha r hr=>?_⟩
 rw [pg_app] at hr
 by_cases hi:i=p.length
 ·subst hi
  rw [if_pos rfl] at hr
  cases hr; exact ⟨rfl,rfl⟩
 ·rw [if_neg hi] at hr; exact ha r hr
structure Least1 (m : LoomMill) (l : List LoomOrder) (p : List LoomRun) (r : LoomRun) : Prop where
 c:Cpl m l (p ++ [r])
 o:r.Order=(p.length:Int)
 m:∀ r':LoomRun,r'.Order=(p.length:Int)→Cpl m l (p ++ [r'])→r.From < r'.From ∨ r.From=r'.From∧r.Loom ≤ r'.Loom
inductive Grd (m : LoomMill) (l : List LoomOrder) : List LoomRun → List LoomRun → Prop
 | done {p:List LoomRun}:p.length=l.length→Grd m l p p
 | step {p q:List LoomRun} {r:LoomRun}:p.length < l.length→Least1 m l p r→Grd m l (p ++ [r]) q→Grd m l p q
theorem Least1.one {m:LoomMill} {l:List LoomOrder} {p:List LoomRun} {r r':LoomRun} (h:Least1 m l p r) (h':Least1 m l p r'):r=r':=by
 have h1:=h.m r' h'.o h'.c
 have h2:=h'.m r h.o h.c
 obtain ⟨a,b,c⟩:=r
 obtain ⟨a',b',c'⟩:=r'
 have h3:=h.o
 have h4:=h'.o
 simp only at h1 h2 h3 h4
 have e1:a=a':=by omega
 have e2:b=b':=by omega
 have e3:c=c':=by omega
 rw [e1,e2,e3]
theorem Grd.one {m:LoomMill} {l:List LoomOrder} {p q q':List LoomRun} (h:Grd m l p q) (h':Grd m l p q'):q=q':=by
 induction h with
 | done hl=>
  cases h' with
  | done _=>rfl
  | step h1 _ _=>omega
 | step h1 h2 _ ih=>
  cases h' with
  | done hl=>omega
  | step _ h3 h4=>
   have:=h2.one h3
   subst this
   exact ih h4
theorem SeqP.app {p:List LoomRun} (h:SeqP p) {r:LoomRun} (hr:r.Order=(p.length:Int)):SeqP (p ++ [r]):=by
 intro i hi
 rw [List.length_append,List.length_singleton] at hi
 have:rn (p ++ [r]) i=if i=p.length then r else rn p i:=by
  have h1:=pg_app (p:=p) (r:=r) (i:=i)
  unfold pg at h1
  unfold rn
  rw [h1]
  split <;> rfl
 rw [this]
 split
 ·rename_i he; rw [hr,he]
 ·exact h i (by omega)

theorem apnd24' {p ys:List LoomRun} (h:p.length ≤ 1000) (h':ys.length ≤ 1000):apnd 24 p ys=some (p ++ ys):=by
 unfold apnd; rw [if_pos ⟨by omega,by omega⟩]
theorem gm_set {f:List (Int × LoomRun)} {i j:Nat} {v:LoomRun}:gm (mset f (i:Int) v) j=if j=i then some v else gm f j:=by
 unfold gm
 rw [mget_mset]
 by_cases h:j=i
 ·subst h; simp
 ·have : ¬ (j : Int) = i := by omega
  simp [h,this]
theorem tog_all {m:LoomMill} {l:List LoomOrder} {g:Nat→Option LoomRun} (hw:m.Widths.length ≤ 7):TogP m l g (allL m) (2 ^ l.length - 1) ↔ ∃ K F,Fits m l (fun i=>i < l.length) (FixG g) K F:=by
 have hp:=pow7 hw
 have hb:∀ i,(2 ^ l.length - 1).testBit i=true ↔ i < l.length:=fun i=>by rw [all_bit]; exact decide_eq_true_iff
 constructor
 ·rintro ⟨K, F, h⟩
  exact ⟨K,F,h.mono (fun i hi=>(hb i).2 hi) fun _ _ h=>h.2⟩
 ·rintro ⟨K, F, h⟩
  refine ⟨K,F,h.mono (fun i hi=>(hb i).1 hi) fun i hi ha=>⟨?_,ha⟩⟩
  refine (mem_nums (lt128_62 (by omega))).2 ?_
  rw [all_bit]
  exact decide_eq_true (h.one i ((hb i).1 hi)).kw
theorem fits_pg {m:LoomMill} {l:List LoomOrder} {g:Nat→Option LoomRun} {p:List LoomRun} (h:∀ i,g i=pg p i):(∃ K F,Fits m l (fun i=>i < l.length) (FixG g) K F) ↔ Cpl m l p:=by
 have:g=pg p:=funext h
 rw [this]; rfl
theorem cpl_days {m:LoomMill} {l:List LoomOrder} {p:List LoomRun} (g:Good m l) (hl:p.length ≤ l.length) (h:Cpl m l p):Days (pg p):=by
 intro i r hr
 obtain ⟨K,F,h⟩:=h
 have hi:i < p.length:=by
  unfold pg at hr
  exact (List.getElem?_eq_some_iff.1 hr).1
 have h1:=h.one i (by omega)
 have h2:=(h1.a r hr).2
 have h3:=g.od h1.il
 have h4:=h1.e
 have h5:=h1.t
 omega
theorem s54 {m : LoomMill} {l : List LoomOrder} (g : Good m l) {p : List LoomRun} (hl : p.length < l.length) (hc : Cpl m l p) {f : List (Int × LoomRun)} (hf : ∀ j, gm f j = pg p j) :
    Yes (f28 ⟨m,l⟩ (p.length:Int) f) fun r=>r.1=true∧∃ x,Least1 m l p x∧∀ j,gm r.2 j=pg (p ++ [x]) j:=by
  have hl7:=g.l7
  have hw3:=g.w3
  have hpl:=pow7 hl7
  unfold f28
  rw [idx_od (l:=l) (by omega) (by omega),Option.bind_some]
  have go:=g.od hl
  generalize hx:od l (p.length:Int)=x at go
  refine Yes.jn ?_
  obtain ⟨lo,hlo⟩:∃ lo:Nat,x.Early=(lo:Int):=⟨x.Early.toNat,by omega⟩
  rw [hlo]
  obtain ⟨hi,hhi2⟩:∃ hi:Nat,lo ≤ hi∧hi ≤ 1000∧∀ t:Nat,lo ≤ t→(t < hi ↔ (t:Int) + x.Woven ≤ x.Late):=by
    by_cases hc:x.Late - x.Woven + 1 ≤ lo
    · exact ⟨lo,Nat.le_refl _,by omega,fun t ht=>by omega⟩
    · exact ⟨(x.Late - x.Woven + 1).toNat,by omega,by omega,fun t ht=>by omega⟩
  have hmem:∀ k:Nat,(k:Int) ∈ allL m ↔ k < m.Widths.length:=fun k=>by
    have hpw:=pow7 (show m.Widths.length ≤ 7 by omega)
    unfold allL
    rw [mem_nums (lt128_62 (by omega)),all_bit]; exact decide_eq_true_iff
  -- the looms,by their places
  have hlist:allL m=(List.range m.Widths.length).map fun (k:Nat)=>(k:Int):=by
    have hpw:=pow7 (show m.Widths.length ≤ 7 by omega)
    unfold allL nums
    rw [← filter_cut (n:=m.Widths.length) (by rw [Nat.shiftRight_eq_div_pow]; exact Nat.div_eq_of_lt (by omega)) (by omega)]
    congr 1
    rw [List.filter_eq_self]
    intro k hk
    rw [all_bit]; exact decide_eq_true (List.mem_range.1 hk)
  have hdp:=cpl_days g (by omega) hc
  refine Yes.rng (σ:=List (Int × LoomRun)) (fun z t=>(z,(t:Int))) lo hi (fun t z=>(∀ j,j ≠ p.length→gm z j=pg p j)∧∀ (t' k:Nat),lo ≤ t'→t' < t→¬ Cpl m l (p ++ [⟨(p.length:Int),(k:Int),(t':Int)⟩])) f rfl hhi2.1 (by omega) ⟨fun j _=>hf j,fun t' k h1 h2=>absurd h2 (by omega)⟩ (fun t z kk ht1 ht2 hI hk=>?_) (fun z kk hI=>?_)
  · have hta := (hhi2.2.2 t ht1).1 ht2
    have h2:decide (w64 ((t:Int) + x.Woven) ≤ x.Late)=true:=by
      rw [w64_id (by omega) (by omega)]; exact decide_eq_true hta
    dsimp only
    refine Yes.jn ?_
    rw [h2,cond_true]
    refine Yes.jn ?_
    rw [s52 g,Option.bind_some]
    show Yes (lp _ big (z,(0:Int))) _
    have hlen:(nums (2 ^ m.Widths.length - 1)).length=m.Widths.length:=by
      have:nums (2 ^ m.Widths.length - 1)=_:=hlist
      rw [this]; simp
    have hget:∀ k,k < m.Widths.length→idx (nums (2 ^ m.Widths.length - 1)) (k:Int)=some (k:Int):=fun k hk=>by
      have:nums (2 ^ m.Widths.length - 1)=_:=hlist
      rw [this,idx_at (by simpa using hk)]; simp
    refine Yes.rng (σ:=List (Int × LoomRun)) (fun z k=>(z,(k:Int))) 0 m.Widths.length (fun k z=>(∀ j,j ≠ p.length→gm z j=pg p j)∧∀ k':Nat,k' < k→¬ Cpl m l (p ++ [⟨(p.length:Int),(k':Int),(t:Int)⟩])) z rfl (Nat.zero_le _) (by omega) ⟨hI.1,fun _ h=>absurd h (Nat.not_lt_zero _)⟩ (fun k z' kk' _ hkw hI' hk'=>?_) (fun z' kk' hI'=>?_)
    · have h3 : decide ((k : Int) < ((nums (2 ^ m.Widths.length - 1)).length : Int)) = true := by rw [hlen]; exact decide_eq_true (Int.ofNat_lt.2 hkw)
      dsimp only
      rw [h3,cond_true]
      refine Yes.jn ?_
      rw [hget k hkw,Option.bind_some,Option.bind_some]
      have hgz:∀ j,gm (mset z' (p.length:Int) ⟨(p.length:Int),(k:Int),(t:Int)⟩) j=pg (p ++ [⟨(p.length:Int),(k:Int),(t:Int)⟩]) j:=fun j=>by
        rw [gm_set,pg_app]
        split
        · rfl
        · rename_i hj; exact hI'.1 j hj
      have hdz:Days (gm (mset z' (p.length:Int) ⟨(p.length:Int),(k:Int),(t:Int)⟩)):=fun j r hr=>by
        rw [hgz,pg_app] at hr
        split at hr
        · cases hr; simp only; omega
        · exact hdp j r hr
      have h51:=s51 g hdz (nums_nodup _) (all_ok m (by omega))
      unfold allL at h51
      rw [h51,Option.bind_some,s53 g,Option.bind_some]
      obtain ⟨v,hv,hvi⟩:=bl_at (n:=l.length) (s:=2 ^ l.length - 1) (P:=TogP m l (gm (mset z' (p.length:Int) ⟨(p.length:Int),(k:Int),(t:Int)⟩)) (nums (2 ^ m.Widths.length - 1))) (by omega)
      rw [hv,Option.bind_some]
      have hvc:v=true ↔ Cpl m l (p ++ [⟨(p.length:Int),(k:Int),(t:Int)⟩]):=hvi.trans ((tog_all (by omega)).trans (fits_pg hgz))
      cases v with
      | true=>
        have hcc:=hvc.1 rfl
        refine Yes.some ⟨rfl,_,⟨hcc,rfl,fun r' ho' hc'=>?_⟩,hgz⟩
        obtain ⟨⟨k',hk1,hk2⟩,he,hla⟩:=cpl_child hl hc'
        obtain ⟨a,b,c⟩:=r'
        simp only at ho' hk1 he ⊢
        subst ho' hk1
        rw [hx,hlo] at he
        obtain ⟨t',rfl⟩:∃ t':Nat,c=(t':Int):=⟨c.toNat,by omega⟩
        by_cases hlt:t' < t
        · exact absurd hc' (hI.2 t' k' (by omega) hlt)
        · by_cases heq : t = t'
          · subst heq
            by_cases hkk:k' < k
            · exact absurd hc' (hI'.2 k' hkk)
            · exact .inr ⟨rfl,by omega⟩
          · exact .inl (by omega)
      | false=>
        rw [cond_false]
        dsimp only
        rw [w64_succ (by omega)]
        refine hk' _ ⟨fun j hj=>?_,fun k' hk2=>?_⟩
        · rw [gm_set,if_neg hj]; exact hI'.1 j hj
        · by_cases hkk : k' = k
          · subst hkk; exact fun h=>by have:=hvc.2 h; cases this
          · exact hI'.2 k' (by omega)
    · have h3 : decide ((m.Widths.length : Int) < ((nums (2 ^ m.Widths.length - 1)).length : Int)) = false := by rw [hlen]; simp
      dsimp only
      rw [h3,cond_false]
      rw [w64_succ (by omega)]
      refine hk _ ⟨hI'.1,fun t' k h1 h2 hc'=>?_⟩
      by_cases htt:t'=t
      · subst htt
        obtain ⟨⟨k',hk1,hk2⟩,_⟩:=cpl_child hl hc'
        have hkk : k = k' := by have : (k : Int) = k' := hk1
                                omega
        subst hkk
        exact hI'.2 k hk2 hc'
      · exact hI.2 t' k h1 (by omega) hc'
  · exfalso
    obtain ⟨k,d',hc'⟩:=cpl_next hl hc
    obtain ⟨⟨k',hk1,hk2⟩,he,hla⟩:=cpl_child hl hc'
    rw [hx] at he hla
    simp only at he hla
    obtain ⟨t',rfl⟩:∃ t':Nat,d'=(t':Int):=⟨d'.toNat,by omega⟩
    exact hI.2 t' k (by omega) ((hhi2.2.2 t' (by omega)).2 hla) hc'
theorem pg_nil (j:Nat):gm [] j=pg [] j:=rfl
theorem s17 (m:LoomMill) (l:List LoomOrder):Yes (f9 m l) fun r=>(chkE m l ≠ 0→r=([],chkE m l))∧(chkE m l=0→(Cpl m l []→r.2=0∧Grd m l [] r.1)∧(¬ Cpl m l []→r=([],9))):=by
 unfold f9
 rw [s50,Option.bind_some]
 by_cases hc:chkE m l=0
 ·have g := good_of hc
  have hl7:=g.l7
  have hw3:=g.w3
  have hpl:=pow7 hl7
  have hor:openR m l=(⟨m,l⟩,0):=by simp [openR,hc]
  rw [hor]
  have h0:((0:Int) != 0)=false:=rfl
  refine Yes.jn ?_
  rw [h0,cond_false]
  refine Yes.jn ?_
  dsimp only
  rw [s52 g,Option.bind_some]
  have h51:=s51a g
  unfold allL at h51
  rw [h51,Option.bind_some,s53 g,Option.bind_some]
  obtain ⟨v,hv,hvi⟩:=bl_at (n:=l.length) (s:=2 ^ l.length - 1) (P:=TogP m l ng (nums (2 ^ m.Widths.length - 1))) (by omega)
  rw [hv,Option.bind_some]
  have hvc:v=true ↔ Cpl m l []:=hvi.trans ((tog_all (by omega)).trans (fits_pg fun _=>rfl))
  cases v with
  | false=>
   have hno:¬ Cpl m l []:=fun h=>by have:=hvc.2 h; cases this
   exact Yes.some ⟨fun h=>absurd hc h,fun _=>⟨fun h=>absurd h hno,fun _=>rfl⟩⟩
  | true=>
   have hcc:=hvc.1 rfl
   rw [Bool.not_true,cond_false]
   refine Yes.jn ?_
   refine Yes.rng (σ := List LoomRun × List (Int × LoomRun)) (fun s i => (s.1, s.2, (i : Int))) 0 l.length (fun i s => s.1.length = i ∧ SeqP s.1 ∧ Cpl m l s.1 ∧ (∀ j, gm s.2 j = pg s.1 j) ∧ ∀ q, Grd m l s.1 q → Grd m l [] q) ([], []) rfl (Nat.zero_le _) (by omega)
    ⟨rfl,fun i hi=>absurd hi (Nat.not_lt_zero _),hcc,pg_nil,fun _ h=>h⟩ (fun i s kk _ hi hI hk=>?_) (fun s kk hI=>?_)
   ·obtain ⟨p, f⟩ := s
    obtain ⟨rfl,hp,hcp,hf,hg⟩:=hI
    simp only at hi hp hcp hf hg hk
    dsimp only
    have h1:decide ((p.length:Int) < (l.length:Int))=true:=decide_eq_true (Int.ofNat_lt.2 hi)
    rw [h1,cond_true]
    refine Yes.jn ?_
    refine Yes.jn ?_
    obtain ⟨r,hr,hr1,x,hx,hrx⟩:=s54 g hi hcp hf
    rw [hr,Option.bind_some,hr1,Bool.not_true,cond_false]
    dsimp only
    have hgx:mget r.2 (p.length:Int)=some x:=by
     have:=hrx p.length
     rw [pg_app,if_pos rfl] at this
     exact this
    rw [hgx,apnd24' (by omega) (by simp),Option.bind_some,w64_succ (by omega)]
    refine hk (p ++ [x],r.2) ⟨by simp,hp.app hx.o,hx.c,hrx,fun q hq=>hg q (.step hi hx hq)⟩
   ·obtain ⟨p, f⟩ := s
    obtain ⟨h1,hp,hcp,hf,hg⟩:=hI
    simp only at h1 hg
    dsimp only
    have h2:decide ((l.length:Int) < (l.length:Int))=false:=by simp
    rw [h2,cond_false]
    exact Yes.some ⟨fun h=>absurd hc h,fun _=>⟨fun _=>⟨rfl,hg p (.done h1)⟩,fun h=>absurd hcc h⟩⟩
 ·have hor : openR m l = (⟨⟨[], 0⟩, []⟩, chkE m l) := by simp [openR, hc]
  have h0:(chkE m l != 0)=true:=by simp [hc]
  rw [hor]
  refine Yes.jn ?_
  rw [h0,cond_true]
  exact Yes.some ⟨fun _=>rfl,fun h=>absurd h hc⟩
theorem grd_len {m:LoomMill} {l:List LoomOrder} {p q:List LoomRun} (h:Grd m l p q):q.length=l.length:=by
 induction h with
 | done h=>exact h
 | step _ _ _ ih=>exact ih
structure MadeI (m : LoomMill) (i : Nat) (l : List LoomOrder) (p : List LoomRun) (rd ch : Nat → Int) : Prop where
 ll:l.length=i
 pl:p.length=i
 ord:∀ j,j < i→(1 ≤ (od l j).Width∧(od l j).Width ≤ 100)∧(0 ≤ (od l j).Chain∧(od l j).Chain ≤ 2)∧(1 ≤ (od l j).Woven∧(od l j).Woven ≤ 15)∧0 ≤ (od l j).Early∧(od l j).Late ≤ 22 * i + 8
 run:∀ j,j < i→(rn p j).Order=(j:Int)∧∃ k:Nat,(rn p j).Loom=(k:Int)∧k < m.Widths.length∧(od l j).Width ≤ wd m k∧(od l j).Early ≤ (rn p j).From∧(rn p j).From + (od l j).Woven ≤ (od l j).Late∧0 ≤ (rn p j).From∧(rn p j).From + (od l j).Woven ≤ 22 * i
 bnd:∀ k,k < m.Widths.length→0 ≤ rd k∧rd k ≤ 22 * i∧-1 ≤ ch k∧ch k ≤ 2
 lst:∀ j k:Nat,j < i→(rn p j).Loom=(k:Int)→∀ c,(rn p j).From + (od l j).Woven + (if (od l j).Chain=c then 0 else m.Change) ≤ rd k + (if 0 ≤ ch k∧ch k ≠ c then m.Change else 0)
 sep:∀ j j':Nat,j < j'→j' < i→(rn p j).Loom=(rn p j').Loom→(rn p j).From + (od l j).Woven + gap m l j j' ≤ (rn p j').From
theorem od_app {l:List LoomOrder} {x:LoomOrder} {j:Nat} (h:j ≤ l.length):od (l ++ [x]) (j:Int)=if j=l.length then x else od l (j:Int):=by
 unfold od
 rw [Int.toNat_natCast]
 split
 ·rename_i he; subst he; simp
 ·rw [List.getElem?_append_left (by omega)]
theorem rn_app {p:List LoomRun} {r:LoomRun} {j:Nat}:rn (p ++ [r]) j=if j=p.length then r else rn p j:=by
 have h1:=pg_app (p:=p) (r:=r) (i:=j)
 unfold pg at h1
 unfold rn
 rw [h1]
 split <;> rfl
theorem MadeI.step {m : LoomMill} {i : Nat} {l : List LoomOrder} {p : List LoomRun} {rd ch rd' ch' : Nat → Int} (h : MadeI m i l p rd ch) (hc : 0 ≤ m.Change ∧ m.Change ≤ 5) (hw3 : m.Widths.length ≤ 3) {k : Nat} (hk : k < m.Widths.length)
    {wi c wo ex e la from':Int} (hwi:1 ≤ wi∧wi ≤ wd m k) (hwi2:wd m k ≤ 100) (hcc:0 ≤ c∧c ≤ 2) (hwo:1 ≤ wo∧wo ≤ 15) (hex:0 ≤ ex∧ex ≤ 2) (hfrom:from'=rd k + ex + (if 0 ≤ ch k∧ch k ≠ c then m.Change else 0)) (he:0 ≤ e∧e ≤ from') (hla:from' + wo ≤ la∧la ≤ from' + wo + 8)
    (hrd:∀ k',k' < m.Widths.length→rd' k'=if k'=k then from' + wo else rd k') (hch:∀ k',k' < m.Widths.length→ch' k'=if k'=k then c else ch k') :
    MadeI m (i + 1) (l ++ [⟨wi,c,wo,e,la⟩]) (p ++ [⟨(i:Int),(k:Int),from'⟩]) rd' ch':=by
  have hbk:=h.bnd k hk
  have hfb:rd k ≤ from'∧from' ≤ 22 * i + 7:=by
    split at hfrom <;> omega
  have hod:∀ j:Nat,j < i + 1→od (l ++ [⟨wi,c,wo,e,la⟩]) (j:Int)=if j=i then ⟨wi,c,wo,e,la⟩ else od l (j:Int):=fun j hj=>by
    have:=od_app (l:=l) (x:=⟨wi,c,wo,e,la⟩) (j:=j) (by have:=h.ll; omega)
    rw [this,h.ll]
  have hrn:∀ j:Nat,rn (p ++ [⟨(i:Int),(k:Int),from'⟩]) j=if j=i then ⟨(i:Int),(k:Int),from'⟩ else rn p j:=fun j=>by rw [rn_app,h.pl]
  refine ⟨by simp [h.ll],by simp [h.pl],fun j hj=>?_,fun j hj=>?_,fun k' hk'=>?_,fun j k' hj hlo c'=>?_,fun j j' hjj hj' hlo=>?_⟩
  · rw [hod j hj]
    split
    · simp only; omega
    · rename_i hne
      have:=h.ord j (by omega)
      omega
  · rw [hod j hj, hrn j]
    split
    · rename_i hje
      exact ⟨by simp [hje],k,rfl,hk,hwi.2,he.2,hla.1,by simp only; omega,by simp only; omega⟩
    · rename_i hne
      obtain ⟨h1,k',h2,h3,h4,h5,h6,h7,h8⟩:=h.run j (by omega)
      exact ⟨h1,k',h2,h3,h4,h5,h6,h7,by omega⟩
  · rw [hrd k' hk', hch k' hk']
    have:=h.bnd k' hk'
    split <;> omega
  · have hkk:k' < m.Widths.length:=by
      rw [hrn j] at hlo
      split at hlo
      · have : (k : Int) = k' := hlo
        omega
      · obtain ⟨_, k2, h2, h3, _⟩ := h.run j (by omega)
        have:(k2:Int)=k':=h2.symm.trans hlo
        omega
    rw [hrd k' hkk,hch k' hkk]
    rw [hrn j] at hlo
    rw [hod j hj,hrn j]
    by_cases hje:j=i
    · rw [if_pos hje] at hlo
      have hk2 : k' = k := by have : (k : Int) = k' := hlo
                              omega
      rw [if_pos hje,if_pos hje,if_pos hk2,if_pos hk2]
      simp only [hcc.1,true_and]
      by_cases hcc':c=c'
      · simp [hcc']
      · simp [hcc']
    · rw [if_neg hje] at hlo
      rw [if_neg hje,if_neg hje]
      have h1:=h.lst j k' (by omega) hlo
      by_cases hk2:k'=k
      · subst hk2
        rw [if_pos rfl,if_pos rfl]
        have h2:=h1 c
        have h3:(rn p j).From + (od l j).Woven + (if (od l j).Chain=c then 0 else m.Change) ≤ from':=by omega
        have hoj:=h.ord j (by omega)
        by_cases hc1:(od l j).Chain=c
        · rw [if_pos hc1] at h3
          rw [hc1]
          by_cases hc2:c=c'
          · simp [hc2]; omega
          · simp [hc2,hcc.1]; omega
        · rw [if_neg hc1] at h3
          have h5:(if (od l j).Chain=c' then 0 else m.Change) ≤ m.Change:=by split <;> omega
          have h6:0 ≤ (if 0 ≤ c∧c ≠ c' then m.Change else 0):=by split <;> omega
          omega
      · rw [if_neg hk2,if_neg hk2]; exact h1 c'
  · have hg : gap m (l ++ [⟨wi, c, wo, e, la⟩]) j j' = if (od (l ++ [⟨wi, c, wo, e, la⟩]) (j : Int)).Chain = (od (l ++ [⟨wi, c, wo, e, la⟩]) (j' : Int)).Chain then 0 else m.Change := rfl
    rw [hg,hod j (by omega),hod j' hj',hrn j,hrn j',if_neg (show ¬ j=i by omega),if_neg (show ¬ j=i by omega)]
    rw [hrn j,hrn j',if_neg (show ¬ j=i by omega)] at hlo
    by_cases hje:j'=i
    · rw [if_pos hje, if_pos hje]
      rw [if_pos hje] at hlo
      have h2:=h.lst j k (by omega) hlo c
      simp only
      omega
    · rw [if_neg hje, if_neg hje]
      rw [if_neg hje] at hlo
      exact h.sep j j' hjj (by omega) hlo
structure Made (m : LoomMill) (l : List LoomOrder) (p : List LoomRun) : Prop where
 ok:chkE m l=0
 n:p.length=l.length
 seq:SeqP p
 fits:HoldF m l p
 c5:m.Change ≤ 5
 w15:∀ j:Nat,j < l.length→(od l j).Woven ≤ 15
 b:∀ j,j < p.length→(rn p j).From + (od l j).Woven ≤ 154
theorem apnd40 {xs:List LoomOrder} {y:LoomOrder} (h:xs.length ≤ 1000):apnd 40 xs [y]=some (xs ++ [y]):=by
 unfold apnd; rw [if_pos ⟨by simp; omega,by simp; omega⟩]
theorem grd_seq {m:LoomMill} {l:List LoomOrder} {p q:List LoomRun} (h:Grd m l p q):SeqP p→SeqP q:=by
 induction h with
 | done _=>exact fun h=>h
 | step _ hr _ ih=>exact fun h=>ih (h.app hr.o)
theorem grd_cpl {m:LoomMill} {l:List LoomOrder} {p q:List LoomRun} (h:Grd m l p q):Cpl m l p→Cpl m l q:=by
 induction h with
 | done _=>exact fun h=>h
 | step _ hr _ ih=>exact fun _=>ih hr.c
theorem seq_nil:SeqP []:=fun i hi=>absurd hi (Nat.not_lt_zero _)
def sm (n : Nat) (f : Nat → Int) : Int := match n with
 | 0=>0
 | n + 1=>sm n f + f n
theorem sm_congr {n:Nat} {f g:Nat→Int} (h:∀ i,i < n→f i=g i):sm n f=sm n g:=by
 induction n with
 | zero=>rfl
 | succ n ih=>simp only [sm]; rw [ih fun i hi=>h i (by omega),h n (by omega)]
theorem sm_zero {n:Nat} {f:Nat→Int} (h:∀ i,i < n→f i=0):sm n f=0:=by
 induction n with
 | zero=>rfl
 | succ n ih=>simp only [sm]; rw [ih fun i hi=>h i (by omega),h n (by omega)]; rfl
theorem sm_out {n:Nat} {f:Nat→Int} {t:Nat} (ht:t < n):sm n f=sm n (fun i=>if i=t then 0 else f i) + f t:=by
 induction n with
 | zero=>omega
 | succ n ih=>
  simp only [sm]
  by_cases h:t=n
  ·subst h
   rw [if_pos rfl,sm_congr (g:=f) (f:=fun i=>if i=t then 0 else f i) fun i hi=>if_neg (by omega)]
   omega
  ·rw [if_neg (fun e=>h e.symm),ih (by omega)]; omega
theorem pack (n : Nat) (w F : Nat → Int) (lo : Int) (hw : ∀ i, i < n → 1 ≤ w i) : ∀ (d : Nat) (hi : Int) (S : Nat → Prop), (hi - lo).toNat = d → lo ≤ hi → (∀ i, i < n → S i → lo ≤ F i ∧ F i + w i ≤ hi) →
  (∀ i j,i < n→j < n→S i→S j→i ≠ j→F i ≤ F j→F i + w i ≤ F j)→sm n (fun i=>if S i then w i else 0) ≤ hi - lo:=by
 intro d
 induction d using Nat.strongRecOn with
 | ind d ih=>
  intro hi S hd hlh hS hsep
  by_cases hne:∃ i,S i∧i < n
  ·obtain ⟨t, ⟨ht, htn⟩, hm⟩ := exl_max n (fun i => S i ∧ i < n) (fun i h => h.2) F hne
   have h1:=hS t htn ht
   have hwt:=hw t htn
   have h2:=ih (F t - lo).toNat (by omega) (F t) (fun i=>S i∧i ≠ t) rfl h1.1 (fun i hin hs=>⟨(hS i hin hs.1).1,hsep i t hin htn hs.1 ht hs.2 (hm i ⟨hs.1,hin⟩)⟩) fun i j hin hjn hsi hsj=>hsep i j hin hjn hsi.1 hsj.1
   rw [sm_out htn,if_pos ht]
   have h3:sm n (fun i=>if i=t then 0 else if S i then w i else 0)=sm n (fun i=>@ite _ (S i∧i ≠ t) (Classical.propDecidable _) (w i) 0):=sm_congr fun i _=>by
    by_cases he:i=t
    ·simp [he]
    ·simp [he]
   rw [h3]; omega
  ·rw [sm_zero fun i hi=>if_neg fun hs=>hne ⟨i,hs,hi⟩]; omega
theorem holdF_run {m : LoomMill} {l : List LoomOrder} {p : List LoomRun} (g : Good m l) (hs : SeqP p) (hn : p.length ≤ l.length) {K : Nat → Nat} {F : Nat → Int} (h : Fits m l (fun i => i < p.length) (FixG (pg p)) K F) {i : Nat} (hi : i < p.length) :
  (rn p i).Order=(i:Int)∧(rn p i).Loom=(K i:Int)∧(rn p i).From=F i∧K i < m.Widths.length∧0 ≤ F i∧F i + (od l i).Woven ≤ 300:=by
 obtain ⟨h1,h2⟩:=holdF_at h hi hi
 have h3:=h.one i hi
 have h4:=g.od h3.il
 have h5:=h3.e
 have h6:=h3.t
 exact ⟨hs i hi,h1,h2,h3.kw,by omega,by omega⟩
def wf (x:LoomRun) (f:Int):LoomRun:=⟨x.Order,x.Loom,f⟩
noncomputable def pdy (m:LoomMill) (l:List LoomOrder) (st:LoomStop) (last:Option LoomRun) (x:LoomRun):Int:=
 if meets l st (wf x (match last with | none=>x.From | some y=>max x.From (freeR m l y x.Order))) then st.Days.High + 1 else (match last with | none=>x.From | some y=>max x.From (freeR m l y x.Order))
theorem pushF_pdy {m:LoomMill} {l:List LoomOrder} {st:LoomStop} {last:Option Nat} {r:List LoomRun} {i:Nat}:pushF m l st last r i=pdy m l st (last.map (rn r)) (rn r i):=by
 unfold pushF pdy day1
 cases last <;> simp only [Option.map_none,Option.map_some,max_is] <;> rfl
theorem pushL_cons {m:LoomMill} {l:List LoomOrder} {st:LoomStop} {a:Nat} {A:List Nat} {last:Option Nat} {r:List LoomRun}:pushL m l st last (a :: A) r=pushL m l st (some a) A (r.set a (wf (rn r a) (pdy m l st (last.map (rn r)) (rn r a)))):=by
 rw [← pushF_pdy]; rfl
theorem pushL_len {m : LoomMill} {l : List LoomOrder} {st : LoomStop} : ∀ (A : List Nat) (last : Option Nat) (r : List LoomRun), (pushL m l st last A r).length = r.length
 | [],_,_=>rfl
 | a :: A,last,r=>by rw [pushL_cons,pushL_len A]; simp
theorem pushL_out {m : LoomMill} {l : List LoomOrder} {st : LoomStop} {i : Nat} : ∀ (A : List Nat) (last : Option Nat) (r : List LoomRun), i ∉ A → (∀ a ∈ A, a < r.length) → rn (pushL m l st last A r) i = rn r i
 | [],_,_,_,_=>rfl
 | a :: A,last,r,h,hl=>by
  rw [pushL_cons,pushL_out A _ _ (fun k=>h (by simp [k])) (fun b hb=>by rw [List.length_set]; exact hl b (by simp [hb])),rn_set (hl a (by simp)),if_neg (fun e=>h (by simp [e]))]
def prvA (last : Option Nat) (A : List Nat) (k : Nat) : Option Nat := match k with
 | 0=>last
 | k + 1=>A[k]?
end Go.Proofs.YtomjodbnpgbjnaaGreat
