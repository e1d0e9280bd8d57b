/- BoxNoFewer. -/
import Derived.Test.YtmpjooneiaiffaaLawV
set_option maxRecDepth 8000
namespace Go.Proofs.Ytmpjooneiaiffaa
open Go.RowKit
open Classical

theorem oneL_cols {l:BoxLoom} (hd:Dst l.Shuttles) {p:BoxPick} {n:BoxLoom} {i:Nat} {m:Int} (h:oneL l p=some (n,i,m)) (t:List Nat):t.map (colr n)=t.map (colr l):=List.map_congr_left fun j _=>oneL_colr hd h j
theorem cL_le : ∀ (ps : List BoxPick) {l n : BoxLoom}, LOk l → (∀ p ∈ ps, okP l.Boxes p = true) → thr l ps = some n → cL ((thl l ps).map (colr l)) l ≤ mvt l ps
 | [],l,n,_,_,_=>by rw [thl,mvt,List.map_nil,cL]; exact Int.le_refl _
 | p :: ps,l,n,hl,hp,h=>by
  rw [thr_cons] at h
  cases ho:oneL l p with
  | none=>rw [ho] at h; cases h
  | some x=>
   obtain ⟨n1,i,m⟩:=x
   rw [ho] at h
   have hp0:=hp p (by simp)
   obtain ⟨h1,h2,_⟩:=oneL_ok hl hp0 ho
   have hp1:∀ q ∈ ps,okP n1.Boxes q=true:=fun q hq=>by rw [h2]; exact hp q (by simp [hq])
   have ih:=cL_le ps h1 hp1 h
   have e1:thl l (p :: ps)=i :: thl n1 ps:=by rw [thl,ho]
   have e2:mvt l (p :: ps)=m + mvt n1 ps:=by rw [mvt,ho]
   rw [e1,e2,List.map_cons,← oneL_cols hl.dst ho,cL]
   rcases Int.lt_or_le (m + mvt n1 ps) ((allP l).foldl (minS l (colr l i) fun n=>cL ((thl n1 ps).map (colr n1)) n) never) with hh | hh
   ·have := (fold_lt (l := l) (c := colr l i) (F := fun n => cL ((thl n1 ps).map (colr n1)) n) (t := m + mvt n1 ps + 1) (allP l) never).2 (.inr ⟨p, (mem_allP hl).2 hp0, (n1, i, m), ⟨ho, rfl⟩, by show m + cL ((thl n1 ps).map (colr n1)) n1 < _; omega⟩)
    omega
   ·exact hh
theorem rf_plan : ∀ (cs : List Int) {l : BoxLoom}, cs.length ≤ 1000 → LOk l → cL cs l < never → (∃ n, thr l (rf cs l).1 = some n) ∧ (∀ p ∈ (rf cs l).1, okP l.Boxes p = true) ∧ (thl l (rf cs l).1).map (colr l) = cs ∧ mvt l (rf cs l).1 = cL cs l
 | [],l,_,_,_=>by rw [rf,cL]; exact ⟨⟨l,by rw [thr]⟩,by simp,by rw [thl]; rfl,by rw [mvt]⟩
 | c :: cs,l,hlen,hl,hlt=>by
  simp only [List.length_cons] at hlen
  obtain ⟨x1,p,x2,x,z1,z2,z3,z4,_⟩:=rf_first (by omega) hl hlt
  have hpa:p ∈ allP l:=by rw [z1]; simp
  obtain ⟨w1,w2,w3,w4⟩:=wv_ok hl hpa z2
  obtain ⟨⟨n,i1⟩,i2,i3,i4⟩:=rf_plan cs (by omega) w1 (by omega)
  have ho:oneL l p=some (x.1,x.2.1,x.2.2):=z2.1
  rw [z4]
  refine ⟨⟨n,by rw [thr_cons,ho]; exact i1⟩,fun q hq=>?_,?_,?_⟩
  ·rcases List.mem_cons.1 hq with rfl | hq
   ·exact (mem_allP hl).1 hpa
   ·rw [← w2]; exact i2 q hq
  ·rw [thl, ho]
   show (x.2.1 :: thl x.1 (rf cs x.1).1).map (colr l)=_
   rw [List.map_cons,← oneL_cols hl.dst ho,i3,z2.2]
  ·rw [mvt, ho]
   show x.2.2 + mvt x.1 (rf cs x.1).1=_
   rw [i4,z3]
def lexP (a b:BoxPick):Prop:=a.Left < b.Left ∨ (a.Left=b.Left∧a.Right < b.Right)
theorem allP_sorted {l:BoxLoom}:(allP l).Pairwise lexP:=by
 unfold allP pkL
 generalize nbx l 0=a
 generalize nbx l 1=b
 induction a with
 | zero=>simp
 | succ a ih=>
  rw [List.range_succ,List.flatMap_append,List.pairwise_append]
  refine ⟨ih,?_,fun p hp q hq=>?_⟩
  ·rw [List.flatMap_cons, List.flatMap_nil, List.append_nil]
   unfold row
   rw [List.pairwise_map]
   exact List.pairwise_lt_range.imp fun h=>.inr ⟨rfl,by show ((_:Nat):Int) < ((_:Nat):Int); omega⟩
  ·obtain ⟨i, k, hi, _, rfl⟩ := mem_pkL.1 (show p ∈ pkL a b from hp)
   rw [List.flatMap_cons,List.flatMap_nil,List.append_nil] at hq
   unfold row at hq
   obtain ⟨k',_,rfl⟩:=List.mem_map.1 hq
   exact .inl (by show (i:Int) < (a:Int); omega)
theorem rf_lex : ∀ (ps : List BoxPick) {l n : BoxLoom}, ps.length ≤ 1000 → LOk l → (∀ p ∈ ps, okP l.Boxes p = true) → thr l ps = some n → mvt l ps = cL ((thl l ps).map (colr l)) l → cL ((thl l ps).map (colr l)) l < never →
  ∀ i (h1:i < (rf ((thl l ps).map (colr l)) l).1.length) (h2:i < ps.length),(rf ((thl l ps).map (colr l)) l).1.take i=ps.take i→(rf ((thl l ps).map (colr l)) l).1[i] ≠ ps[i]→lexP (rf ((thl l ps).map (colr l)) l).1[i] ps[i]
 | [],_,_,_,_,_,_,_,_=>fun i _ h2=>absurd h2 (Nat.not_lt_zero _)
 | p :: ps,l,n,hlen,hl,hp,h,hmv,hlt=>by
  simp only [List.length_cons] at hlen
  rw [thr_cons] at h
  cases ho:oneL l p with
  | none=>rw [ho] at h; cases h
  | some x=>
   obtain ⟨n1,i,m⟩:=x
   rw [ho] at h
   have hp0:=hp p (by simp)
   obtain ⟨o1,o2,_⟩:=oneL_ok hl hp0 ho
   have hp1:∀ q ∈ ps,okP n1.Boxes q=true:=fun q hq=>by rw [o2]; exact hp q (by simp [hq])
   have e1:(thl l (p :: ps)).map (colr l)=colr l i :: (thl n1 ps).map (colr n1):=by rw [thl,ho]; show (i :: thl n1 ps).map (colr l)=_; rw [List.map_cons,oneL_cols hl.dst ho]
   have e2:mvt l (p :: ps)=m + mvt n1 ps:=by rw [mvt,ho]
   have hle:=cL_le ps o1 hp1 h
   have htl:(thl n1 ps).length=ps.length:=thl_length h
   rw [e1] at hlt hmv ⊢
   rw [e2] at hmv
   obtain ⟨x1,b,x2,y,z1,z2,z3,z4,z5⟩:=rf_first (c:=colr l i) (cs:=(thl n1 ps).map (colr n1)) (by rw [List.length_map]; omega) hl hlt
   rw [z4]
   intro j h1 h2 htake hne
   have hpa:p ∈ allP l:=(mem_allP hl).2 hp0
   have hw:Wv l (colr l i) p (n1,i,m):=⟨ho,rfl⟩
   cases j with
   | zero=>
    simp only [List.getElem_cons_zero] at hne ⊢
    rw [z1] at hpa
    rcases List.mem_append.1 hpa with hm | hm
    ·have := z5 p hm _ hw
     have:cL (colr l i :: (thl n1 ps).map (colr n1)) l < m + cL ((thl n1 ps).map (colr n1)) n1:=this
     omega
    ·rcases List.mem_cons.1 hm with rfl | hm
     ·exact absurd rfl hne
     ·have hs := allP_sorted (l := l)
      rw [z1,List.pairwise_append] at hs
      exact (List.pairwise_cons.1 hs.2.1).1 p hm
   | succ j=>
    rw [List.take_succ_cons,List.take_succ_cons] at htake
    obtain ⟨hb,ht⟩:=List.cons.inj htake
    subst hb
    have hy:y=(n1,i,m):=z2.one hw
    subst hy
    simp only [List.getElem_cons_succ] at hne ⊢
    simp only at z3 ht hne ⊢
    exact rf_lex ps (by omega) o1 hp1 h (by omega) (by have:=(oneL_ok hl hp0 ho).2.2.2.2; omega) j (by simpa using h1) (by simpa using h2) ht hne
theorem oneL_bx (l:BoxLoom) (B:List Int) (p:BoxPick):oneL ⟨B,l.At,l.Shuttles⟩ p=(oneL l p).map fun x=>(⟨B,x.1.At,x.1.Shuttles⟩,x.2.1,x.2.2):=by
 unfold oneL
 show (if h:(inX l.Shuttles 0 p.Left < 0) ↔ (inX l.Shuttles 1 p.Right < 0) then none else _)=_
 split
 ·rfl
 ·split <;> rfl
theorem run_bx (B : List Int) : ∀ (ps : List BoxPick) {l n : BoxLoom}, thr l ps = some n → thr ⟨B, l.At, l.Shuttles⟩ ps = some ⟨B, n.At, n.Shuttles⟩ ∧ thl ⟨B, l.At, l.Shuttles⟩ ps = thl l ps ∧ mvt ⟨B, l.At, l.Shuttles⟩ ps = mvt l ps
 | [],l,n,h=>by cases h; exact ⟨rfl,by rw [thl,thl],by rw [mvt,mvt]⟩
 | p :: ps,l,n,h=>by
  rw [thr_cons] at h
  cases ho:oneL l p with
  | none=>rw [ho] at h; cases h
  | some x=>
   rw [ho] at h
   obtain ⟨i1,i2,i3⟩:=run_bx B ps h
   have hb:oneL ⟨B,l.At,l.Shuttles⟩ p=some (⟨B,x.1.At,x.1.Shuttles⟩,x.2.1,x.2.2):=by rw [oneL_bx,ho]; rfl
   refine ⟨by rw [thr_cons,hb]; exact i1,?_,?_⟩
   ·rw [thl,hb,thl,ho]; show x.2.1 :: _=x.2.1 :: _; rw [i2]
   ·rw [mvt,hb,mvt,ho]; show x.2.2 + _=x.2.2 + _; rw [i3]
theorem s44 {l:BoxLoom} {t:List Nat} (ht:∀ i ∈ t,i < l.Shuttles.length) (hlen:t.length ≤ 1000):f44 l (t.map fun i:Nat=>(i:Int))=some (t.map (colr l)):=by
 refine Yes.eq ?_
 unfold f44
 refine Yes.bind (Yes.mono (Q':=fun r=>r=t.map (colr l)) ?_ fun r hr=>Yes.some hr)
 refine Yes.upto t.length (by omega) (fun i s=>s=(t.take i).map (colr l)) (by simp) (fun i s k hi hI hk=>?_) (fun s k hI=>Yes.jn (qskip (by simp) (Yes.some (by rw [hI,List.take_length]))))
 have hti:=ht _ (List.getElem_mem hi)
 have hs:s.length ≤ 1000:=by rw [hI]; simp; omega
 refine Yes.jn (qtake (by simp; omega) (Yes.jn (Yes.bind (qbind ((t[i]:Nat):Int) (by rw [qidx (by simpa using hi)]; simp) (qbind _ (qidx hti) (Yes.bind (Yes.apnd (by simp; omega) (by simp; omega) (Yes.some (hk _ ?_)))))))))
 rw [take_succ hi,List.map_append,hI,← colr_at hti]; rfl
theorem more_ok {l:BoxLoom} (hl:LOk l) {k:Nat} (hk:k < 2) (h4:l.Boxes.getD k 0 < 4):LOk ⟨l.Boxes.set k (l.Boxes.getD k 0 + 1),l.At,l.Shuttles⟩∧∀ p,okP l.Boxes p=true→okP (l.Boxes.set k (l.Boxes.getD k 0 + 1)) p=true:=by
 have hlen:=hl.len.1
 have hB:∀ i,i < 2→(l.Boxes.set k (l.Boxes.getD k 0 + 1)).getD i 0=if k=i then l.Boxes.getD k 0 + 1 else l.Boxes.getD i 0:=fun i hi=>by
  rw [List.getD,List.getElem?_set]
  split
  ·rename_i he; subst he; rw [if_pos (by omega)]; rfl
  ·rfl
 have hge:∀ i,i < 2→l.Boxes.getD i 0 ≤ (l.Boxes.set k (l.Boxes.getD k 0 + 1)).getD i 0:=fun i hi=>by
  rw [hB i hi]; split
  ·rename_i he; subst he; omega
  ·exact Int.le_refl _
 refine ⟨⟨⟨by show (l.Boxes.set k _).length=2; rw [List.length_set]; exact hlen,hl.len.2⟩,fun i hi=>?_,hl.few,hl.some,fun s hs=>?_,hl.dst⟩,fun p hp=>?_⟩
 ·have h1 := hl.box hi
  have h2:=hl.at hi
  have h3:=hge i hi
  unfold sideOk
  rw [Bool.and_eq_true,btw_iff,btw_iff]
  show (1 ≤ (l.Boxes.set k (l.Boxes.getD k 0 + 1)).getD i 0∧(l.Boxes.set k (l.Boxes.getD k 0 + 1)).getD i 0 ≤ 4)∧0 ≤ l.At.getD i 0∧l.At.getD i 0 ≤ (l.Boxes.set k (l.Boxes.getD k 0 + 1)).getD i 0 - 1
  have h4':(l.Boxes.set k (l.Boxes.getD k 0 + 1)).getD i 0 ≤ 4:=by
   rw [hB i hi]; split <;> omega
  omega
 ·have := hl.sh s hs
  unfold okS at this ⊢
  simp only [Bool.and_eq_true,btw_iff,decide_eq_true_eq] at this ⊢
  have h3:=hge s.Side.toNat (by omega)
  refine ⟨⟨this.1.1,this.1.2.1,?_⟩,this.2⟩
  show s.Box ≤ (l.Boxes.set k (l.Boxes.getD k 0 + 1)).getD s.Side.toNat 0 - 1
  omega
 ·have := okP_iff.1 hp
  have h0:=hge 0 (by omega)
  have h1:=hge 1 (by omega)
  exact okP_iff.2 ⟨⟨this.1.1,by omega⟩,this.2.1,by omega⟩
theorem cols_all {l:BoxLoom} (hl:LOk l) (t:List Nat):(t.map (colr l)).all (btw 0 9)=true:=by
 rw [List.all_eq_true]
 intro c hc
 obtain ⟨i,_,rfl⟩:=List.mem_map.1 hc
 exact btw_iff.2 (colr_nn hl i)
theorem s17p {l:BoxLoom} {cs:List Int} (hl:LOk l) (h24:cs.length ≤ 24) (hc:cs.all (btw 0 9)=true) (hlt:cL cs l < never):f17 l cs=some ((rf cs l).1,cL cs l,0,0):=by
 have hR:=rf_ok cs (by omega) hl
 rw [s17 hl h24 hc,if_pos (hR.all.1 hlt),hR.mv hlt]
theorem s8 {A B C:Prop} (x:Race) (side:UInt8) (hx:A∧B∧x.Picks.length ≤ 9223372036854775807∧C) (_:True):f8 x side=some true:=by
  have byte:∀ u:UInt8,(0:Int) ≤ (u.toNat:Int)∧(u.toNat:Int) ≤ 255:=fun u=>by have:=u.toNat_lt; omega
  refine Yes.eq ?_
  unfold f8
  have known:Yes (f14.bind fun y=>some y) (fun r=>r=true):=⟨true,rfl,rfl⟩
  refine Yes.bind ((s38 x).mono fun l hl=>Yes.bind ((s39x hl x hx.2.2.1 (mst:=16) (by omega)).mono fun z hz=>?_))
  obtain ⟨n,hn,hp,hbx,h16,hth,hmv⟩:=hz
  obtain ⟨ps,z2,z3,z4⟩:=z
  simp only at hn hp hbx h16 hth hmv
  subst hth hmv
  have htl:=thl_lt hl hp
  have hll:=thl_length hn
  have hmb:=mvt_bound hl hp
  have hle:=cL_le ps hl hp hn
  have hlt:cL ((thl l ps).map (colr l)) l < never:=by unfold never; omega
  have hlex:=rf_lex ps (by omega) hl hp hn
  have hall:=cols_all hl (thl l ps)
  have hcl:((thl l ps).map (colr l)).length ≤ 16:=by rw [List.length_map]; omega
  have hcl2:((thl l ps).map (colr l)).length=ps.length:=by rw [List.length_map,hll]
  refine qbind _ (s44 htl (by omega)) ?_
  generalize (thl l ps).map (colr l)=cs at *
  have hrg:=cL_rng cs hl (by omega)
  obtain ⟨⟨b,q1⟩,q2,q3,q4⟩:=rf_plan cs (by omega) hl hlt
  have hbl:(rf cs l).1.length=cs.length:=by rw [← thl_length q1,← List.length_map (f:=colr l),q3]
  refine qbind _ (s15 l hl.sml) (qbind _ (s16 cs (by omega)) (qbind _ (s17p hl (by omega) hall hlt) (Yes.jn (Yes.bind ?_))))
  refine qskip rfl (qskip rfl (qskip (decide_eq_false (by show ¬ cL cs l > mvt l ps; omega)) (qskip (decide_eq_false (by show ¬ cL cs l < 0; omega)) (Yes.some ?_))))
  refine qskip (bne_eq_false_iff_eq.2 (by show ((rf cs l).1.length:Int)=(cs.length:Int); omega)) ?_
  have v1:f40 l (rf cs l).1=some (cs,b,cL cs l,0,0):=by rw [s40 hl q2 (by omega),q1,q3,q4]
  refine qbind _ (s15 l hl.sml) (qbind _ (s28 (rf cs l).1 (by omega)) (qbind _ v1 (Yes.jn (Yes.bind (qskip rfl (qskip (by simp) (Yes.some (qskip (by simp) (Yes.jn ?_)))))))))
  refine Yes.upto0 cs.length (by omega) (fun _=>True) trivial (fun i k hi _ hk=>?_) (fun k _=>?_)
  · exact Yes.jn (qtake (by simp; omega) (Yes.jn (qbind _ (qidx hi) (qbind _ (qidx hi) (qskip (by simp) (hk trivial))))))
  refine Yes.jn (qskip (by simp) (Yes.jn ?_))
  -- what comes behind the comparison of the picks
  have rest:Yes (jn (σ:=Unit) (fun _=>
      jn (σ:=Unit) (fun _=>(f14).bind fun gE=>some (gE)) fun pG=>
      (rem64 ((side).toNat:Int) (2:Int)).bind fun q8=>
      (idx ((l).Boxes) q8).bind fun qG=>
      bif (decide (qG < (4 : Int))) then
       (f15 l).bind fun t8=>
       (idx ((t8).Boxes) q8).bind fun kD=>
       (f16 cs).bind fun tJ=>
       (f17 (({ t8 with Boxes:=(List.set ((t8).Boxes) (Int.toNat q8) (w64 (kD + (1:Int)))) }:BoxLoom)) tJ).bind fun v6=>
       Option.bind (α:=Bool) (bif (v6.2.2.2 != (0:Int)) then some (true) else some ((decide (v6.2.1 > cL cs l)))) fun mA=>
       bif mA then some (false) else pG ()
      else pG ()) fun rG=>
     bif (decide (((cs).length : Int) > (0 : Int))) then
      (f15 l).bind fun iC=>
      (cut cs 0 (w64 (((cs).length:Int) - (1:Int)))).bind fun uJ=>
      (f16 uJ).bind fun lC=>
      (f17 iC lC).bind fun i5=>
      Option.bind (α:=Bool) (bif (i5.2.2.2 != (0:Int)) then some (true) else some ((decide (i5.2.1 > cL cs l)))) fun pA=>
      bif pA then some (false) else rG ()
     else rG ()) (fun r=>r=true):=by
    -- one box more
    have last:Yes (jn (σ:=Unit) (fun _=>(f14).bind fun gE=>some (gE)) fun pG=>
      (rem64 ((side).toNat:Int) (2:Int)).bind fun q8=>
      (idx ((l).Boxes) q8).bind fun qG=>
      bif (decide (qG < (4 : Int))) then
       (f15 l).bind fun t8=>
       (idx ((t8).Boxes) q8).bind fun kD=>
       (f16 cs).bind fun tJ=>
       (f17 (({ t8 with Boxes:=(List.set ((t8).Boxes) (Int.toNat q8) (w64 (kD + (1:Int)))) }:BoxLoom)) tJ).bind fun v6=>
       Option.bind (α:=Bool) (bif (v6.2.2.2 != (0:Int)) then some (true) else some ((decide (v6.2.1 > cL cs l)))) fun mA=>
       bif mA then some (false) else pG ()
      else pG ()) (fun r=>r=true):=by
      obtain ⟨k,hk,hk2⟩:∃ k:Nat,(side.toNat:Int) % 2=(k:Int)∧k < 2:=⟨side.toNat % 2,by omega,by omega⟩
      have hb:=hl.box hk2
      refine Yes.jn (qbind (k:Int) (by rw [rem_nn (byte side).1 (by omega),hk]) (qbind _ (box_at hl.len hk2) (Yes.cond (fun hc=>?_) (fun _=>known))))
      have h4:l.Boxes.getD k 0 < 4:=of_decide_eq_true hc
      obtain ⟨m1,m2⟩:=more_ok hl hk2 h4
      obtain ⟨r1,r2,r3⟩:=run_bx (l.Boxes.set k (l.Boxes.getD k 0 + 1)) (rf cs l).1 q1
      have hle2:=cL_le (rf cs l).1 m1 (fun p hp=>m2 p (q2 p hp)) r1
      have hcm:(thl ⟨l.Boxes.set k (l.Boxes.getD k 0 + 1),l.At,l.Shuttles⟩ (rf cs l).1).map (colr ⟨l.Boxes.set k (l.Boxes.getD k 0 + 1),l.At,l.Shuttles⟩)=cs:=by rw [r2]; exact q3
      rw [hcm,r3,q4] at hle2
      refine qbind _ (s15 l hl.sml) (qbind _ (box_at hl.len hk2) (qbind _ (s16 cs (by omega)) ?_))
      rw [w64_id (by omega) (by omega),Int.toNat_natCast]
      refine qbind _ (s17p m1 (by omega) hall (by omega)) (Yes.bind (qskip rfl (Yes.some (qskip (decide_eq_false ?_) known))))
      show ¬ cL cs _ > cL cs l
      omega
    refine Yes.jn (Yes.cond (fun hc=>?_) (fun _=>last))
    have h0:(cs.length:Int) > 0:=of_decide_eq_true hc
    have hcut:cut cs 0 (w64 ((cs.length:Int) - 1))=some (cs.take (cs.length - 1)):=by
      rw [w64_id (by omega) (by omega)]
      unfold cut
      rw [if_pos ⟨by omega,by omega,by omega⟩,show ((cs.length:Int) - 1).toNat=cs.length - 1 by omega]
      simp
    obtain ⟨k,hk⟩:∃ k,k=cs.length - 1:=⟨_,rfl⟩
    rw [← hk] at hcut
    -- a shorter order needs no more
    have hspl:=List.take_append_drop k (rf cs l).1
    have hpt:∃ n',thr l ((rf cs l).1.take k)=some n':=by
      have h:=q1
      rw [← hspl,thr_append] at h
      cases hh:thr l ((rf cs l).1.take k) with
      | none=>rw [hh] at h; cases h
      | some n'=>exact ⟨n',rfl⟩
    obtain ⟨n',hn'⟩:=hpt
    have hp':∀ p ∈ (rf cs l).1.take k,okP l.Boxes p=true:=fun p hp=>q2 p (List.mem_of_mem_take hp)
    obtain ⟨k1,k2,_⟩:=thr_ok hl hp' hn'
    have hm':mvt l ((rf cs l).1.take k) ≤ cL cs l:=by
      have h:=q4
      rw [← hspl,mvt_append _ _ hn'] at h
      have:=(mvt_bound k1 (ps:=(rf cs l).1.drop k) fun p hp=>by rw [k2]; exact q2 p (List.mem_of_mem_drop hp)).1
      omega
    have hth':(thl l ((rf cs l).1.take k)).map (colr l)=cs.take k:=by
      have h:=q3
      rw [← hspl,thl_append _ _ hn',List.map_append] at h
      have h2:=congrArg (List.take k) h
      rw [List.take_append_of_le_length (by rw [List.length_map,thl_length hn',List.length_take]; omega),List.take_of_length_le (by rw [List.length_map,thl_length hn',List.length_take]; omega)] at h2
      exact h2
    have hle3:=cL_le _ hl hp' hn'
    rw [hth'] at hle3
    have hall':(cs.take k).all (btw 0 9)=true:=by
      rw [List.all_eq_true] at hall ⊢
      exact fun c hc=>hall c (List.mem_of_mem_take hc)
    refine qbind _ (s15 l hl.sml) (qbind _ hcut (qbind _ (s16 (cs.take k) (by simp; omega)) (qbind _ (s17p hl (by simp; omega) hall' (by omega)) (Yes.bind (qskip rfl (Yes.some (qskip (decide_eq_false ?_) last)))))))
    show ¬ cL (cs.take k) l > cL cs l
    omega
  refine Yes.lp (fun o=>∃ i:Nat,o=(i:Int)∧i ≤ cs.length∧(rf cs l).1.take i=ps.take i) (fun o=>cs.length + 1 - o.toNat) ⟨0,rfl,by omega,by simp⟩ (by simp; omega) ?_
  rintro o kk ⟨i,rfl,hi,ht⟩ hk
  refine Yes.jn (Yes.bind (Yes.cond (fun hc=>Yes.some (Yes.cond (fun hc2=>?_) (fun _=>rest))) (fun hc=>Yes.some (qskip rfl rest))))
  have hi1:i < (rf cs l).1.length:=by have:(i:Int) < ((rf cs l).1.length:Int):=of_decide_eq_true hc; omega
  have hi2:i < ps.length:=by omega
  have hmveq:mvt l ps=cL cs l:=(beq_iff_eq.1 hc2).symm
  refine Yes.jn (Yes.jn (qbind _ (qidx hi1) (qbind _ (qidx hi2) (Yes.cond (fun hc3=>?_) (fun hc3=>?_)))))
  · have hne : (rf cs l).1[i] ≠ ps[i] := by simpa using hc3
    have hx:=hlex hmveq hlt i hi1 hi2 ht hne
    refine Yes.jn (Yes.bind (qbind _ (qidx hi1) (qbind _ (qidx hi2) (qskip (decide_eq_false ?_) (qbind _ (qidx hi1) (qbind _ (qidx hi2) (Yes.mono (Q':=fun b=>b=false) ?_ fun b hb=>qskip hb rest)))))))
    · rcases hx with hx | hx <;> omega
    · refine Yes.cond (fun hc4 => qbind _ (qidx hi1) (qbind _ (qidx hi2) (Yes.some (decide_eq_false ?_)))) (fun _ => Yes.some rfl)
      have:=beq_iff_eq.1 hc4
      rcases hx with hx | hx <;> omega
  · have he : (rf cs l).1[i] = ps[i] := by simpa using hc3
    rw [w64_id (by omega) (by omega)]
    refine hk _ ⟨i + 1,by simp,by omega,by rw [take_succ hi1,take_succ hi2,ht,he]⟩ ?_
    show cs.length + 1 - ((i:Int) + 1).toNat < cs.length + 1 - ((i:Int)).toNat; omega
end Go.Proofs.Ytmpjooneiaiffaa
