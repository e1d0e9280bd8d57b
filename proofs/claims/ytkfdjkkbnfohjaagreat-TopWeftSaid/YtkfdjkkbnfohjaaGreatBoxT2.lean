/- Laws of plain functions, part 2. -/
import Derived.Test.YtkfdjkkbnfohjaaGreatBoxT1
set_option maxRecDepth 8000
namespace Go.Proofs.YtkfdjkkbnfohjaaGreat
open Go.RowKit
open Classical
theorem s76x {l : BoxLoom} (hl : LOk l) {r : BoxRace} (hr : Rel r l) {ps : List BoxPick} (hp : ∀ p ∈ ps, okP l.Boxes p = true) (hlen : ps.length ≤ 24) :
  Yes (f60 r ps) (fun x=>match thr l ps with | some n=>Rel x.1.last n∧x.1.thrown=(thl l ps).map (fun i:Nat=>(i:Int) + 1)∧x.1.moves=mvt l ps∧x.2=(0,0) | none=>x.2=(((thl l ps).length:Int),9)):=by
 unfold f60
 refine Yes.jn (Yes.upto ps.length (by omega) (fun i t=>(∃ n,thr l (ps.take i)=some n∧Rel t.last n)∧t.thrown=(thl l (ps.take i)).map (fun i:Nat=>(i:Int) + 1)∧t.thrown.length=i∧t.moves=mvt l (ps.take i)) ⟨⟨l,by simp [thr],hr⟩,by simp [thl],rfl,by simp [mvt]⟩ (fun i t k hi hI hk=>?_) (fun t k hI=>?_))
 ·obtain ⟨⟨n, h1, hrn⟩, h3, h2, h4⟩ := hI
  obtain ⟨k1,k2,_⟩:=thr_ok hl (fun p h=>hp p (List.mem_of_mem_take h)) h1
  have hpi:okP n.Boxes ps[i]=true:=by rw [k2]; exact hp _ (List.getElem_mem hi)
  refine qtake (by simp; omega) (Yes.jn (qbind _ (qidx hi) (Yes.bind ((s97 hrn k1 hpi).mono fun x hx=>Yes.jn ?_))))
  cases ho:oneL n ps[i] with
  | none=>
   rw [ho] at hx
   have hx:x=(t.last,0,0):=hx
   subst hx
   refine qtake rfl (Yes.some ?_)
   rw [thr_fail hi h1 ho]
   show ((i:Int),(9:Int))=_
   rw [thl_fail hi h1 ho]
   have:(thl l (ps.take i)).length=i:=by have:=congrArg List.length h3; simpa [h2] using this.symm
   rw [this]
  | some y=>
   obtain ⟨n',j,m⟩:=y
   rw [ho] at hx
   obtain ⟨e1,e2,e3⟩:=hx
   obtain ⟨u1,u2⟩:=thl_step hi h1 ho
   have hb1:=mvt_bound hl (ps:=ps.take (i + 1)) fun p h=>hp p (List.mem_of_mem_take h)
   have hb2:(ps.take (i + 1)).length ≤ 24:=by rw [List.length_take]; omega
   refine qskip (by rw [e2]; simp; omega) (Yes.jn (Yes.bind (Yes.apnd (by simp [h2]; omega) (by simp [h2]; omega) (hk _ ⟨⟨n',?_,e1⟩,?_,by simp [h2],?_⟩))))
   ·rw [thr_step hi h1,ho]; rfl
   ·show t.thrown ++ [x.2.1] = _
    rw [u1,List.map_append,← h3,e2]; rfl
   ·show w64 (t.moves + x.2.2) = _
    rw [h4,e3,← u2,w64_id (by omega) (by omega)]
 ·obtain ⟨⟨n, h1, hrn⟩, h3, h2, h4⟩ := hI
  refine qskip (by simp) (Yes.some ?_)
  rw [List.take_length] at h1 h3 h4
  rw [h1]; exact ⟨hrn,h3,h4,rfl⟩
def colr (l:BoxLoom) (i:Nat):Int:=(l.Shuttles[i]?.map (·.Colour)).getD 0
theorem colr_at {l:BoxLoom} {i:Nat} (h:i < l.Shuttles.length):colr l i=l.Shuttles[i].Colour:=by unfold colr; rw [List.getElem?_eq_getElem h]; rfl
theorem thr_same {ps:List BoxPick}:∀ {l n:BoxLoom},LOk l→(∀ p ∈ ps,okP l.Boxes p=true)→thr l ps=some n→∀ {i:Nat} (h:i < l.Shuttles.length) (h':i < n.Shuttles.length),n.Shuttles[i]={ l.Shuttles[i] with Side:=n.Shuttles[i].Side,Box:=n.Shuttles[i].Box }:=by
 induction ps with
 | nil=>intro l n _ _ h i h1 h2; cases h; rfl
 | cons p ps ih=>
  intro l n hl hp h i h1 h2
  rw [thr_cons] at h
  cases ho:oneL l p with
  | none=>rw [ho] at h; cases h
  | some x=>
   obtain ⟨a,j,m⟩:=x
   rw [ho] at h
   obtain ⟨k1,k2,k3,_⟩:=oneL_ok hl (hp p (by simp)) ho
   have hia:i < a.Shuttles.length:=by omega
   have:=ih k1 (fun q hq=>by rw [k2]; exact hp q (by simp [hq])) h hia h2
   rw [this]
   obtain ⟨_,_,_,h4⟩:=oneL_some hl.dst ho
   have key:∀ s c,a.Shuttles=mv l.Shuttles j s c→∀ s' c',({ a.Shuttles[i] with Side:=s',Box:=c' }:BoxShuttle)={ l.Shuttles[i] with Side:=s',Box:=c' }:=fun s c e s' c'=>by
    have:a.Shuttles[i]=(mv l.Shuttles j s c)[i]'(by rw [mv_len]; exact h1):=by simp only [e]
    rw [this,mv_at _ h1]
    split <;> rfl
   rcases h4 with ⟨e,_⟩ | ⟨e,_⟩
   ·exact key _ _ e _ _
   ·exact key _ _ e _ _
theorem thl_lt {ps:List BoxPick}:∀ {l:BoxLoom},LOk l→(∀ p ∈ ps,okP l.Boxes p=true)→∀ i ∈ thl l ps,i < l.Shuttles.length:=by
 induction ps with
 | nil=>intro l _ _ i h; rw [thl] at h; cases h
 | cons p ps ih=>
  intro l hl hp i h
  rw [thl] at h
  cases ho:oneL l p with
  | none=>rw [ho] at h; cases h
  | some x=>
   obtain ⟨a,j,m⟩:=x
   rw [ho] at h
   obtain ⟨k1,k2,k3,k4,_⟩:=oneL_ok hl (hp p (by simp)) ho
   rcases List.mem_cons.1 h with rfl | h
   ·exact k4
   ·have := ih k1 (fun q hq => by rw [k2]; exact hp q (by simp [hq])) i h
    omega
theorem thl_len {ps:List BoxPick}:∀ {l:BoxLoom},(thl l ps).length ≤ ps.length:=by
 induction ps with
 | nil=>intro l; rw [thl]; exact Nat.le_refl _
 | cons p ps ih=>
  intro l
  rw [thl]
  cases ho:oneL l p with
  | none=>exact Nat.zero_le _
  | some x=>exact Nat.succ_le_succ ih
theorem loom_eta {l n:BoxLoom} (hn:LOk n) (hb:n.Boxes=l.Boxes):(⟨l.Boxes,[n.At.getD 0 0,n.At.getD 1 0],n.Shuttles⟩:BoxLoom)=n:=by
 obtain ⟨B,A,S⟩:=n
 have h:=hn.len.2
 simp only at hb h
 subst hb
 match A,h with
 | [a,b],_=>rfl
theorem s70 {l : BoxLoom} {ps : List BoxPick} (hl : LOk l) (hp : ∀ p ∈ ps, okP l.Boxes p = true) (hlen : ps.length ≤ 24) :
  Yes (f35 l ps) (fun x=>x.1=⟨l⟩∧match thr l ps with | some n=>Rel x.2.1.last n∧x.2.1.thrown=(thl l ps).map (fun i:Nat=>(i:Int) + 1)∧x.2.1.moves=mvt l ps∧x.2.2=(0,0) | none=>x.2.2=(((thl l ps).length:Int),9)):=by
 have hck:chkP l ps=0:=by
  unfold chkP; rw [if_neg (fun h=>h (chk0.2 hl)),if_neg (by omega),if_neg (fun h=>h hp)]
 unfold f35
 refine Yes.jn (qbind _ (s74 l ps hl.sml (by omega)) (qskip (by rw [hck]; rfl) (Yes.bind ((s54 hl).mono fun r hr=>Yes.bind ((s76x hl hr hp hlen).mono fun x hx=>Yes.some ⟨rfl,hx⟩)))))
theorem s40 {l : BoxLoom} {ps : List BoxPick} (hl : LOk l) (hp : ∀ p ∈ ps, okP l.Boxes p = true) (hlen : ps.length ≤ 24) :
  f13 l ps=some (match thr l ps with | some n=>((thl l ps).map (colr l),n,mvt l ps,0,0) | none=>([],⟨[],[],[]⟩,0,((thl l ps).length:Int),9)):=by
 refine Yes.eq ?_
 unfold f13
 refine Yes.bind ((s70 hl hp hlen).mono fun y hy=>Yes.jn ?_)
 obtain ⟨y1,hy⟩:=hy
 cases ht:thr l ps with
 | none=>
  rw [ht] at hy
  have hy:y.2.2=(((thl l ps).length:Int),9):=hy
  refine qtake (by rw [hy]; rfl) (Yes.some ?_)
  rw [hy]
 | some n=>
  rw [ht] at hy
  obtain ⟨e1,e2,e3,e4⟩:=hy
  obtain ⟨k1,k2,k3⟩:=thr_ok hl hp ht
  have hfew:=hl.few
  have htl:=thl_lt hl hp
  have hll:=thl_len (l:=l) (ps:=ps)
  have hnd:∀ {i:Nat} (h:i < l.Shuttles.length) (h':i < n.Shuttles.length),n.Shuttles[i]={ l.Shuttles[i] with Side:=n.Shuttles[i].Side,Box:=n.Shuttles[i].Box }:=fun h h'=>thr_same hl hp ht h h'
  refine qskip (by rw [e4]; rfl) ?_
  show Yes (Option.bind _ _) _
  rw [y1,e2]
  refine Yes.bind (Yes.upto (thl l ps).length (by omega) (fun i t=>t=((thl l ps).take i).map (colr l)) (by simp) (fun i t k hi hI hk=>?_) (fun t k hI=>?_))
  ·have hti := htl _ (List.getElem_mem hi)
   refine qtake (by simp; omega) (Yes.bind (qbind ((((thl l ps)[i]:Nat):Int) + 1) (by rw [qidx (by simpa using hi)]; simp) (qbind (l.Shuttles[(thl l ps)[i]]) (by rw [w64_id (by omega) (by omega),show (((thl l ps)[i]:Nat):Int) + 1 - 1=(((thl l ps)[i]:Nat):Int) by omega]; exact qidx hti) (Yes.bind (Yes.apnd ?_ ?_ (Yes.some (hk _ ?_)))))))
   ·rw [hI]; simp; omega
   ·rw [hI]; simp; omega
   ·rw [take_succ hi,List.map_append,← hI,List.map_cons,List.map_nil,colr_at hti]
  ·refine qskip (by simp) (Yes.some ?_)
   rw [List.take_length] at hI
   subst hI
   refine qbind l.Boxes (show apnd 8 [] l.Boxes=_ by have:=hl.len.1; unfold apnd; rw [if_pos (by simp; omega)]; rfl) (qbind l.Shuttles (show apnd 40 [] l.Shuttles=_ by unfold apnd; rw [if_pos (by simp; omega)]; rfl) (Yes.bind ?_))
   -- the places
   let I:Nat→BoxLoom→Prop:=fun m q=>q.Boxes=l.Boxes∧q.At=[n.At.getD 0 0,n.At.getD 1 0]∧q.Shuttles.length=l.Shuttles.length∧∀ i (h1:i < q.Shuttles.length) (h2:i < n.Shuttles.length) (h3:i < l.Shuttles.length),(plc n.Shuttles[i] < m→q.Shuttles[i]=n.Shuttles[i])∧(¬ plc n.Shuttles[i] < m→q.Shuttles[i]=l.Shuttles[i])
   refine Yes.upto 2 (by omega) (fun s q=>I (4 * s) q) ⟨rfl,by rw [e1.at_],rfl,fun i h1 h2 h3=>⟨fun h=>absurd h (by omega),fun _=>rfl⟩⟩ (fun s q k hs hI hk=>?_) (fun q k hI=>?_)
   ·refine qtake (by simp; omega) (Yes.bind (qbind _ (vidx _ hs) (Yes.upto 4 (by omega) (fun b q => I (4 * s + b) q) hI (fun b q k hb hI hk2 => ?_) (fun q k2 hI => ?_))))
    ·obtain ⟨j1, j2, j3, j4⟩ := hI
     have hbx:=e1.bx s b hs hb
     refine qtake (by simp; omega) (Yes.bind (qbind _ (vidx _ hb) ?_))
     rcases inX_cases k1.dst s b with ⟨i,hi,e⟩ | ⟨hi,e⟩
     ·rw [e] at hbx
      obtain ⟨hin,hp1⟩:=isAt_plc k1 hi
      have hil:i < l.Shuttles.length:=by omega
      have hiq:i < q.Shuttles.length:=by omega
      simp only [Int.toNat_natCast] at hp1
      have hw:w64 ((y.2.1).last.boxes[s][b] - 1)=(i:Int):=by rw [hbx,w64_id (by omega) (by omega)]; omega
      refine qtake (decide_eq_true (by rw [hbx]; omega)) ?_
      rw [hw]
      refine qbind _ (qidx hiq) (qbind { q.Shuttles[i] with Side:=(s:Int) } ?_ (Yes.some (hk2 _ ⟨j1,j2,?_,fun a h1 h2 h3=>?_⟩)))
      ·rw [Int.toNat_natCast]
       show idx (q.Shuttles.set i _) (i:Int)=_
       rw [qidx (by rw [List.length_set]; exact hiq),List.getElem_set_self]
      ·simp only [List.length_set]; exact j3
      ·have hset : (q.Shuttles.set i { q.Shuttles[i] with Side := (s : Int) }).set i { { q.Shuttles[i] with Side := (s : Int) } with Box := (b : Int) } = mv q.Shuttles i s b := set_set hiq s b
       have haq:a < q.Shuttles.length:=by omega
       have hval:∀ (h1':a < (mv q.Shuttles i s b).length),(plc n.Shuttles[a] < 4 * s + (b + 1)→(mv q.Shuttles i s b)[a]=n.Shuttles[a])∧(¬ plc n.Shuttles[a] < 4 * s + (b + 1)→(mv q.Shuttles i s b)[a]=l.Shuttles[a]):=fun h1'=>by
        rw [mv_at h1' haq]
        by_cases hia:i=a
        ·subst hia
         rw [if_pos rfl,(j4 i hiq h2 h3).2 (by omega),hnd h3 h2,hi.2.1,hi.2.2]
         exact ⟨fun _=>rfl,fun h=>absurd hp1 (by rw [hnd h3 h2,hi.2.1,hi.2.2] at hp1 ⊢; omega)⟩
        ·rw [if_neg hia]
         have hne:plc n.Shuttles[a] ≠ 4 * s + b:=fun h=>hia (k1.dst.one hi (plc_isAt k1 hs hb h2 (by omega)))
         exact ⟨fun h=>(j4 a haq h2 h3).1 (by omega),fun h=>(j4 a haq h2 h3).2 (by omega)⟩
       have:=hval (by rw [mv_len]; exact haq)
       simpa only [Int.toNat_natCast,hset] using this
     ·rw [e] at hbx
      refine qskip (decide_eq_false (by rw [hbx]; omega)) (Yes.some (hk2 _ ⟨j1,j2,j3,fun a h1 h2 h3=>?_⟩))
      have hne:plc n.Shuttles[a] ≠ 4 * s + b:=fun h=>hi ⟨a,plc_isAt k1 hs hb h2 (by omega)⟩
      exact ⟨fun h=>(j4 a h1 h2 h3).1 (by omega),fun h=>(j4 a h1 h2 h3).2 (by omega)⟩
    ·exact qskip (by simp) (Yes.some (hk _ (by rw [show 4 * (s + 1)=4 * s + 4 by omega]; exact hI)))
   ·obtain ⟨j1, j2, j3, j4⟩ := hI
    refine qskip (by simp) (Yes.some (Yes.some ?_))
    have hq:q=n:=by
     rw [← loom_eta k1 k2]
     obtain ⟨B,A,S⟩:=q
     simp only at j1 j2 j3 j4
     subst j1; subst j2
     have:S=n.Shuttles:=List.ext_getElem (by omega) fun i h1 h2=>(j4 i h1 h2 (by omega)).1 (by have:=plc_lt k1 (List.getElem_mem h2); omega)
     rw [this]
    rw [hq,e3]
structure Smb (n l : BoxLoom) : Prop where
 bx:n.Boxes=l.Boxes
 len:n.Shuttles.length=l.Shuttles.length
 sm:∀ i (h:i < n.Shuttles.length) (h':i < l.Shuttles.length),n.Shuttles[i].Colour=l.Shuttles[i].Colour∧n.Shuttles[i].Yarn=l.Shuttles[i].Yarn
theorem Smb.trans {a b c:BoxLoom} (h:Smb a b) (k:Smb b c):Smb a c:=⟨h.bx.trans k.bx,h.len.trans k.len,fun i h1 h2=>by
 have h3:i < b.Shuttles.length:=by rw [k.len]; exact h2
 exact ⟨(h.sm i h1 h3).1.trans (k.sm i h3 h2).1,(h.sm i h1 h3).2.trans (k.sm i h3 h2).2⟩⟩
theorem rem_nn {a b:Int} (ha:0 ≤ a) (hb:0 < b):rem64 a b=some (a % b):=by
 unfold rem64; rw [if_neg (by omega),Int.tmod_eq_emod_of_nonneg ha]
theorem thl_length {ps:List BoxPick}:∀ {l n:BoxLoom},thr l ps=some n→(thl l ps).length=ps.length:=by
 induction ps with
 | nil=>intro l n _; rw [thl]; rfl
 | cons p ps ih=>
  intro l n h
  rw [thr_cons] at h
  rw [thl]
  cases ho:oneL l p with
  | none=>rw [ho] at h; cases h
  | some x=>rw [ho] at h; exact congrArg Nat.succ (ih h)
noncomputable def cx (l:BoxLoom) (s b:Int):Int:=if inX l.Shuttles s b < 0 then 0 else colr l (inX l.Shuttles s b).toNat + 1
theorem cx_some {l:BoxLoom} (hd:Dst l.Shuttles) {s b:Int} {i:Nat} (h:isAt l.Shuttles s b i):cx l s b=colr l i + 1:=by
 unfold cx; rw [inX_some hd h,if_neg (by omega),Int.toNat_natCast]
theorem cx_none {l:BoxLoom} {s b:Int} (h:¬ ∃ i,isAt l.Shuttles s b i):cx l s b=0:=by
 unfold cx; rw [inX_none h,if_pos (by omega)]
theorem colr_rng {l:BoxLoom} (hl:LOk l) {i:Nat} (hi:i < l.Shuttles.length):0 ≤ colr l i∧colr l i ≤ 9:=by
 rw [colr_at hi]
 have:=hl.sh _ (List.getElem_mem hi)
 unfold okS at this
 simp only [Bool.and_eq_true,btw_iff] at this
 exact this.1.1.1
theorem colr_nn {l:BoxLoom} (hl:LOk l) (i:Nat):0 ≤ colr l i∧colr l i ≤ 9:=by
 by_cases hi:i < l.Shuttles.length
 ·exact colr_rng hl hi
 ·unfold colr; rw [List.getElem?_eq_none (by omega)]; simp
theorem cx_zero {l:BoxLoom} (hl:LOk l) (s b:Int):cx l s b=0 ↔ inX l.Shuttles s b + 1=0:=by
 unfold cx
 rcases inX_cases hl.dst s b with ⟨i,hi,e⟩ | ⟨_,e⟩
 ·rw [e,if_neg (by omega),Int.toNat_natCast]; have:=colr_nn hl i; omega
 ·rw [e]; simp
theorem colr_of_mv {l n:BoxLoom} {i:Nat} {s b:Int} (h:n.Shuttles=mv l.Shuttles i s b) (j:Nat):colr n j=colr l j:=by
 unfold colr
 rw [h]
 unfold mv
 rw [List.getElem?_modify]
 cases l.Shuttles[j]? with
 | none=>rfl
 | some x=>by_cases h:i=j <;> simp [h]
theorem oneL_colr {l:BoxLoom} (hd:Dst l.Shuttles) {p:BoxPick} {n:BoxLoom} {i:Nat} {m:Int} (h:oneL l p=some (n,i,m)) (j:Nat):colr n j=colr l j:=by
 obtain ⟨_,_,_,h | h⟩:=oneL_some hd h
 ·exact colr_of_mv h.1 j
 ·exact colr_of_mv h.1 j
structure RelC (r : BoxRace) (l : BoxLoom) : Prop where
 bx:∀ (s b:Nat) (hs:s < 2) (hb:b < 4),r.boxes[s][b]=cx l s b
 at_:r.at_=⟨l.At.getD 0 0,l.At.getD 1 0⟩
theorem RelC.one {r q:BoxRace} {l:BoxLoom} (h:RelC r l) (k:RelC q l):r=q:=by
 obtain ⟨rb,ra⟩:=r
 obtain ⟨qb,qa⟩:=q
 have h1:=h.bx; have h2:=h.at_; have k1:=k.bx; have k2:=k.at_
 simp only at h1 h2 k1 k2
 have:rb=qb:=Vector.ext fun s hs=>Vector.ext fun b hb=>(h1 s b hs hb).trans (k1 s b hs hb).symm
 rw [this,h2,k2]
theorem Goes.elseC {a a':BoxLoom} {i:Nat} {s c s' c':Int} (ha:Dst a.Shuttles) (ha':Dst a'.Shuttles) (hc:∀ j,colr a' j=colr a j) (h:Goes a.Shuttles a'.Shuttles i s c s' c') {t d:Int} (h1:¬ (t=s∧d=c)) (h2:¬ (t=s'∧d=c')):cx a' t d=cx a t d:=by
 unfold cx; rw [h.else ha ha' h1 h2]; simp only [hc]
theorem s97c {r : BoxRace} {l : BoxLoom} (hr : RelC r l) (hl : LOk l) {p : BoxPick} (hp : okP l.Boxes p = true) :
  Yes (f75 r p) (fun x=>match oneL l p with | some (n,i,m)=>RelC x.1 n∧x.2.1=colr l i + 1∧x.2.2=m | none=>x=(r,0,0)):=by
 have hd:=hl.dst
 have hf:=hl.few
 have hp':=okP_iff.1 hp
 have b0:=hl.box (i:=0) (by omega)
 have b1:=hl.box (i:=1) (by omega)
 have a0:=hl.at (i:=0) (by omega)
 have a1:=hl.at (i:=1) (by omega)
 obtain ⟨L,hL⟩:∃ L:Nat,p.Left=L:=⟨p.Left.toNat,by omega⟩
 obtain ⟨R,hR⟩:∃ R:Nat,p.Right=R:=⟨p.Right.toNat,by omega⟩
 have hL4:L < 4:=by omega
 have hR4:R < 4:=by omega
 have e0:=hr.bx 0 L (by omega) hL4
 have e1:=hr.bx 1 R (by omega) hR4
 unfold f75
 rw [hL,hR]
 refine qbind _ (vidx r.boxes (i:=0) (by omega)) (qbind _ (vidx _ hL4) (qbind _ (vidx r.boxes (i:=1) (by omega)) (qbind _ (vidx _ hR4) (Yes.jn (Yes.cond (fun hc=>Yes.some ?_) (fun hc=>?_))))))
 ·have hn:oneL l p=none:=by
   rw [oneL_none hd,hL,hR]
   have h0:cx l (0:Int) (L:Int)=r.boxes[0][L]:=e0.symm
   have h1:cx l (1:Int) (R:Int)=r.boxes[1][R]:=e1.symm
   rw [← cx_zero hl,← cx_zero hl,h0,h1]
   have:=beq_iff_eq.1 hc
   constructor
   ·intro h
    rw [h] at this
    exact beq_iff_eq.1 (this.symm.trans rfl)
   ·intro h
    rw [h] at this
    exact beq_iff_eq.1 (this.trans rfl)
  rw [hn]
 ·have hnn:oneL l p ≠ none:=fun hn=>by
   rw [oneL_none hd,hL,hR] at hn
   have h0:cx l (0:Int) (L:Int)=r.boxes[0][L]:=e0.symm
   have h1:cx l (1:Int) (R:Int)=r.boxes[1][R]:=e1.symm
   rw [← cx_zero hl,← cx_zero hl,h0,h1] at hn
   have:(r.boxes[0][L] == (0:Int))=(r.boxes[1][R] == (0:Int)):=by
    rw [Bool.eq_iff_iff,beq_iff_eq,beq_iff_eq]; exact hn
   rw [this] at hc
   simp at hc
  obtain ⟨⟨n,i,m⟩,hon⟩:=Option.ne_none_iff_exists'.1 hnn
  obtain ⟨hm,hnb,hna,hgo⟩:=oneL_some hd hon
  obtain ⟨hln,_,hlen,hil,_⟩:=oneL_ok hl hp hon
  have hcl:=oneL_colr hd hon
  have hcr:=colr_rng hl hil
  rw [hon]
  have hat:r.at_.Left=l.At.getD 0 0∧r.at_.Right=l.At.getD 1 0:=by rw [hr.at_]; exact ⟨rfl,rfl⟩
  refine qbind _ (s106 (by rw [hat.1]; omega) (by omega)) (qbind _ (s106 (by rw [hat.2]; omega) (by omega)) (qbind _ (vidx r.boxes (i:=0) (by omega)) (qbind _ (vidx _ hL4) (qbind _ (vidx _ (i:=1) (by omega)) (qbind _ (vidx _ hR4) (Yes.some ⟨⟨fun s b hs hb=>?_,?_⟩,?_,?_⟩))))))
  ·show (vmod (vmod r.boxes ((0 : Nat) : Int) (fun b => vset b (L : Int) r.boxes[1][R])) ((1 : Nat) : Int) (fun b => vset b (R : Int) r.boxes[0][L]))[s][b] = _
   have hold:=hr.bx s b hs hb
   rcases (by omega:s=0 ∨ s=1) with rfl | rfl
   ·rw [vmod_at (i := 1) (by omega), if_neg (by omega), vmod_at (i := 0) (by omega), if_pos rfl, vset_at hb]
    split
    ·rename_i hb'; subst hb'
     rcases hgo with ⟨_,g⟩ | ⟨_,g⟩
     ·rw [e1,show cx l ((1:Nat):Int) (R:Int)=0 from cx_none (hR ▸ g.free),show cx n ((0:Nat):Int) (L:Int)=0 from cx_none (hL ▸ g.left hd (by simp))]
     ·rw [e1,show cx l ((1:Nat):Int) (R:Int)=colr l i + 1 from cx_some hd (hR ▸ g.at0),show cx n ((0:Nat):Int) (L:Int)=colr l i + 1 from (cx_some hln.dst (hL ▸ g.there)).trans (by rw [hcl])]
    ·rename_i hb'
     rw [hold]
     rcases hgo with ⟨_,g⟩ | ⟨_,g⟩
     ·exact (g.elseC hd hln.dst hcl (by omega) (by omega)).symm
     ·exact (g.elseC hd hln.dst hcl (by omega) (by omega)).symm
   ·rw [vmod_at (i := 1) (by omega), if_pos rfl, vset_at hb]
    split
    ·rename_i hb'; subst hb'
     rcases hgo with ⟨_,g⟩ | ⟨_,g⟩
     ·rw [e0,show cx l ((0:Nat):Int) (L:Int)=colr l i + 1 from cx_some hd (hL ▸ g.at0),show cx n ((1:Nat):Int) (R:Int)=colr l i + 1 from (cx_some hln.dst (hR ▸ g.there)).trans (by rw [hcl])]
     ·rw [e0,show cx l ((0:Nat):Int) (L:Int)=0 from cx_none (hL ▸ g.free),show cx n ((1:Nat):Int) (R:Int)=0 from cx_none (hR ▸ g.left hd (by simp))]
    ·rename_i hb'
     rw [vmod_at (i:=0) (by omega),if_neg (by omega),hold]
     rcases hgo with ⟨_,g⟩ | ⟨_,g⟩
     ·exact (g.elseC hd hln.dst hcl (by omega) (by omega)).symm
     ·exact (g.elseC hd hln.dst hcl (by omega) (by omega)).symm
  ·show p = _
   rw [hna]; rfl
  ·show w64 (r.boxes[0][L] + r.boxes[1][R]) = _
   rw [e0,e1]
   rcases hgo with ⟨_,g⟩ | ⟨_,g⟩
   ·rw [show cx l ((1:Nat):Int) (R:Int)=0 from cx_none (hR ▸ g.free),show cx l ((0:Nat):Int) (L:Int)=colr l i + 1 from cx_some hd (hL ▸ g.at0),w64_id (by omega) (by omega)]; omega
   ·rw [show cx l ((0:Nat):Int) (L:Int)=0 from cx_none (hL ▸ g.free),show cx l ((1:Nat):Int) (R:Int)=colr l i + 1 from cx_some hd (hR ▸ g.at0),w64_id (by omega) (by omega)]; omega
  ·show w64 (_ + _) = m
   rw [hm,hat.1,hat.2,w64_id (by omega) (by omega)]; unfold mvs; rw [hL,hR]; omega
theorem s54c {l:BoxLoom} (hl:LOk l):Yes (f30 ⟨l⟩ (fun a0 a1=>f31 a0 a1)) (fun r=>RelC r l):=by
 have hf:=hl.few
 unfold f30
 refine Yes.bind (Yes.upto l.Shuttles.length (by omega) (fun n t=>∀ (s b:Nat) (hs:s < 2) (hb:b < 4),(∀ j,j < n→isAt l.Shuttles s b j→t.boxes[s][b]=colr l j + 1)∧((∀ j,j < n→¬ isAt l.Shuttles s b j)→t.boxes[s][b]=0)) ?_ (fun i t k hi hI hk=>?_) (fun t k hI=>?_))
 ·intro s b hs hb
  refine ⟨fun j h=>absurd h (Nat.not_lt_zero _),fun _=>?_⟩
  rcases (by omega:s=0 ∨ s=1) with rfl | rfl <;> rcases (by omega:b=0 ∨ b=1 ∨ b=2 ∨ b=3) with rfl | rfl | rfl | rfl <;> rfl
 ·have hok := hl.sh _ (List.getElem_mem hi)
  unfold okS at hok
  simp only [Bool.and_eq_true,btw_iff] at hok
  obtain ⟨⟨⟨_,hs⟩,hb⟩,_⟩:=hok
  obtain ⟨S,hS⟩:∃ S:Nat,l.Shuttles[i].Side=S:=⟨l.Shuttles[i].Side.toNat,by omega⟩
  obtain ⟨B,hB⟩:∃ B:Nat,l.Shuttles[i].Box=B:=⟨l.Shuttles[i].Box.toNat,by omega⟩
  have hS2:S < 2:=by omega
  have hbx:=hl.box hS2
  rw [hS,Int.toNat_natCast] at hb
  have hB4:B < 4:=by omega
  refine qtake (by simp; omega) (Yes.bind (qbind _ (qidx hi) (qbind (colr l i + 1) (by show some (w64 (l.Shuttles[i].Colour + 1))=_; rw [← colr_at hi]; have:=colr_rng hl hi; rw [w64_id (by omega) (by omega)]) ?_)))
  rw [hS,hB]
  refine qbind _ (vidx t.boxes hS2) (qbind _ (vidx _ hB4) (Yes.some (hk _ fun s b hs hb=>?_)))
  show (∀ j,j < i + 1→isAt l.Shuttles s b j→(vmod t.boxes (S:Int) (fun b=>vset b (B:Int) (colr l i + 1)))[s][b]=colr l j + 1)∧((∀ j,j < i + 1→¬ isAt l.Shuttles s b j)→(vmod t.boxes (S:Int) (fun b=>vset b (B:Int) (colr l i + 1)))[s][b]=0)
  have hat:isAt l.Shuttles S B i:=⟨hi,hS,hB⟩
  obtain ⟨o1,o2⟩:=hI s b hs hb
  by_cases hsb:S=s∧B=b
  ·obtain ⟨rfl, rfl⟩ := hsb
   have hv:(vmod t.boxes (S:Int) (fun b=>vset b (B:Int) (colr l i + 1)))[S][B]=colr l i + 1:=by
    rw [vmod_at hs,if_pos rfl,vset_at hb,if_pos rfl]
   rw [hv]
   exact ⟨fun j _ hj=>by rw [hl.dst.one hj hat],fun h=>absurd hat (h i (by omega))⟩
  ·have hv:(vmod t.boxes (S:Int) (fun b=>vset b (B:Int) (colr l i + 1)))[s][b]=t.boxes[s][b]:=by
    by_cases hss:S=s
    ·subst hss
     rw [vmod_at hs,if_pos rfl,vset_at hb,if_neg (fun h=>hsb ⟨rfl,h⟩)]
    ·rw [vmod_at hs,if_neg hss]
   rw [hv]
   refine ⟨fun j hj hja=>?_,fun h=>o2 fun j hj=>h j (by omega)⟩
   rcases Nat.lt_succ_iff_lt_or_eq.1 hj with h | rfl
   ·exact o1 j h hja
   ·have := isAt_same hat hja
    exact absurd ⟨by omega,by omega⟩ hsb
 ·refine qskip (by simp) (Yes.some (qbind _ (at_at hl.len (i := 0) (by omega)) (qbind _ (at_at hl.len (i := 1) (by omega)) (Yes.some ⟨fun s b hs hb => ?_, rfl⟩))))
  obtain ⟨o1,o2⟩:=hI s b hs hb
  show t.boxes[s][b]=_
  rcases inX_cases hl.dst s b with ⟨i,hi,e⟩ | ⟨hi,e⟩
  ·rw [o1 i hi.1 hi,cx_some hl.dst hi]
  ·rw [o2 fun j _ h=>hi ⟨j,h⟩,cx_none hi]
def row (B1:Nat) (i:Nat):List BoxPick:=(List.range B1).map fun k:Nat=>⟨(i:Int),(k:Int)⟩
def pkL (B0 B1:Nat):List BoxPick:=(List.range B0).flatMap (row B1)
def nbx (l:BoxLoom) (s:Nat):Nat:=(l.Boxes.getD s 0).toNat
def allP (l:BoxLoom):List BoxPick:=pkL (nbx l 0) (nbx l 1)
theorem nbx_eq {l:BoxLoom} (hl:LOk l) {s:Nat} (hs:s < 2):l.Boxes.getD s 0=(nbx l s:Int)∧1 ≤ nbx l s∧nbx l s ≤ 4:=by
 have:=hl.box hs; unfold nbx; omega
theorem mem_pkL {B0 B1:Nat} {p:BoxPick}:p ∈ pkL B0 B1 ↔ ∃ i k,i < B0∧k < B1∧p=⟨(i:Int),(k:Int)⟩:=by
 unfold pkL row
 simp only [List.mem_flatMap,List.mem_range,List.mem_map]
 constructor
 ·rintro ⟨i,hi,k,hk,rfl⟩; exact ⟨i,k,hi,hk,rfl⟩
 ·rintro ⟨i,k,hi,hk,rfl⟩; exact ⟨i,hi,k,hk,rfl⟩
theorem okP_nat {l:BoxLoom} (hl:LOk l) {i k:Nat} (hi:i < nbx l 0) (hk:k < nbx l 1):okP l.Boxes ⟨(i:Int),(k:Int)⟩=true:=by
 have h0:=nbx_eq hl (s:=0) (by omega)
 have h1:=nbx_eq hl (s:=1) (by omega)
 refine okP_iff.2 ⟨⟨?_,?_⟩,?_,?_⟩
 ·show (0:Int) ≤ (i:Int); omega
 ·show (i:Int) ≤ _; rw [h0.1]; omega
 ·show (0:Int) ≤ (k:Int); omega
 ·show (k:Int) ≤ _; rw [h1.1]; omega
theorem mem_allP {l:BoxLoom} (hl:LOk l) {p:BoxPick}:p ∈ allP l ↔ okP l.Boxes p=true:=by
 have h0:=nbx_eq hl (s:=0) (by omega)
 have h1:=nbx_eq hl (s:=1) (by omega)
 unfold allP
 rw [mem_pkL]
 constructor
 ·rintro ⟨i, k, hi, hk, rfl⟩
  exact okP_nat hl hi hk
 ·intro h
  have:=okP_iff.1 h
  obtain ⟨L,R⟩:=p
  simp only at this
  refine ⟨L.toNat,R.toNat,by omega,by omega,?_⟩
  rw [Int.toNat_of_nonneg this.1.1,Int.toNat_of_nonneg this.2.1]
noncomputable def rc (l:BoxLoom):BoxRace:=⟨Vector.ofFn fun s=>Vector.ofFn fun b=>cx l (s:Nat) (b:Nat),⟨l.At.getD 0 0,l.At.getD 1 0⟩⟩
theorem rc_rel (l:BoxLoom):RelC (rc l) l:=⟨fun s b hs hb=>by simp [rc],rfl⟩
theorem rc_p {l:BoxLoom} (hl:LOk l) {p:BoxPick} (hp:okP l.Boxes p=true):f75 (rc l) p=some (match oneL l p with | some (n,i,m)=>(rc n,colr l i + 1,m) | none=>(rc l,0,0)):=by
 obtain ⟨x,hx,h⟩:=s97c (rc_rel l) hl hp
 rw [hx]
 cases ho:oneL l p with
 | none=>rw [ho] at h; have h:x=(rc l,0,0):=h; rw [h]
 | some y=>
  obtain ⟨n,i,m⟩:=y
  rw [ho] at h
  obtain ⟨h1,h2,h3⟩:=h
  obtain ⟨x1,x2,x3⟩:=x
  simp only at h1 h2 h3
  rw [h1.one (rc_rel n),h2,h3]
theorem s54r {l:BoxLoom} (hl:LOk l):f30 ⟨l⟩ (fun a0 a1=>f31 a0 a1)=some (rc l):=by
 obtain ⟨x,hx,h⟩:=s54c hl
 rw [hx,h.one (rc_rel l)]
theorem s56 {l:BoxLoom} (hl:LOk l):f32 ⟨l⟩=some ⟨(nbx l 0:Int),(nbx l 1:Int),⟨⟩⟩:=by
 have i0:idx l.Boxes (0:Int)=some (nbx l 0:Int):=(box_at hl.len (i:=0) (by omega)).trans (by rw [(nbx_eq hl (s:=0) (by omega)).1])
 have i1:idx l.Boxes (1:Int)=some (nbx l 1:Int):=(box_at hl.len (i:=1) (by omega)).trans (by rw [(nbx_eq hl (s:=1) (by omega)).1])
 unfold f32
 show ((idx l.Boxes 0).bind _)=_
 rw [i0,Option.bind_some]
 show ((idx l.Boxes 1).bind _)=_
 rw [i1,Option.bind_some]
def runL {σ α : Type} (cons : Cons σ α) : List α → σ → Option σ
 | [],s=>some s
 | x :: xs,s=>(cons s x).bind fun r=>bif r.1 then runL cons xs r.2 else some r.2
theorem runL_cons {σ α:Type} {cons:Cons σ α} {x:α} {xs:List α} {s:σ} {Q:σ→Prop} (h:Yes (runL cons (x :: xs) s) Q):∃ b s',cons s x=some (b,s')∧(b=true→Yes (runL cons xs s') Q)∧(b=false→Q s'):=by
 obtain ⟨r,hr,hq⟩:=h
 rw [runL] at hr
 cases hc:cons s x with
 | none=>rw [hc] at hr; cases hr
 | some y=>
  obtain ⟨b,s'⟩:=y
  rw [hc,Option.bind_some] at hr
  refine ⟨b,s',rfl,fun hb=>?_,fun hb=>?_⟩
  ·subst hb; exact ⟨r,hr,hq⟩
  ·subst hb; cases hr; exact hq
noncomputable def stp (l:BoxLoom) (p:BoxPick):Option (BoxPick × BoxStep):=(oneL l p).map fun x=>(p,⟨rc x.1,colr l x.2.1,x.2.2⟩)
noncomputable def stL (l:BoxLoom):List (BoxPick × BoxStep):=(allP l).filterMap (stp l)
theorem rng_drop {n i:Nat} (h:i < n):List.range' i (n - i)=i :: List.range' (i + 1) (n - (i + 1)):=by
 rw [show n - i=(n - (i + 1)) + 1 by omega,List.range'_succ]
theorem s98 {l:BoxLoom} (hl:LOk l) {σ:Type} {cons:Cons σ (BoxPick × BoxStep)} {s0:σ} {Q:σ→Prop} (h:Yes (runL cons (stL l) s0) Q):Yes (f74 ⟨⟨(nbx l 0:Int),(nbx l 1:Int),⟨⟩⟩⟩ (rc l) σ cons s0) Q:=by
 obtain ⟨_,a0,b0⟩:=nbx_eq hl (s:=0) (by omega)
 obtain ⟨_,a1,b1⟩:=nbx_eq hl (s:=1) (by omega)
 unfold f74
 refine Yes.upto (nbx l 0) (by omega) (fun i s=>Yes (runL cons (((List.range' i (nbx l 0 - i)).flatMap (row (nbx l 1))).filterMap (stp l)) s) Q) ?_ (fun i s k hi hI hk=>?_) (fun s k hI=>?_)
 ·rw [Nat.sub_zero,← List.range_eq_range']; exact h
 ·refine qtake (by simp; omega) (Yes.jn ?_)
  rw [rng_drop hi,List.flatMap_cons,List.filterMap_append] at hI
  refine Yes.upto (nbx l 1) (by omega) (fun j t=>Yes (runL cons ((((List.range' j (nbx l 1 - j)).map fun k:Nat=>(⟨(i:Int),(k:Int)⟩:BoxPick)).filterMap (stp l)) ++ ((List.range' (i + 1) (nbx l 0 - (i + 1))).flatMap (row (nbx l 1))).filterMap (stp l)) t) Q) ?_ (fun j t k2 hj hJ hk2=>?_) (fun t k2 hJ=>?_)
  ·rw [Nat.sub_zero,← List.range_eq_range']; exact hI
  ·rw [rng_drop hj, List.map_cons, List.filterMap_cons] at hJ
   refine qtake (by simp; omega) (Yes.jn (qbind _ (rc_p hl (okP_nat hl hi hj)) ?_))
   cases ho:oneL l ⟨(i:Int),(j:Int)⟩ with
   | none=>
    have hs:stp l ⟨(i:Int),(j:Int)⟩=none:=by unfold stp; rw [ho]; rfl
    rw [hs] at hJ
    exact Yes.bind (qskip rfl (Yes.some (qskip rfl (hk2 _ hJ))))
   | some y=>
    obtain ⟨n,c,m⟩:=y
    have hs:stp l ⟨(i:Int),(j:Int)⟩=some (⟨(i:Int),(j:Int)⟩,⟨rc n,colr l c,m⟩):=by unfold stp; rw [ho]; rfl
    rw [hs,List.cons_append] at hJ
    obtain ⟨b,s',h1,h2,h3⟩:=runL_cons hJ
    have hcl:=colr_nn hl c
    refine Yes.bind (qtake (decide_eq_true (by show colr l c + 1 > 0; omega)) ?_)
    show Yes (Option.bind (cons t (⟨(i:Int),(j:Int)⟩,⟨rc n,w64 (colr l c + 1 - 1),m⟩)) _) _
    rw [show w64 (colr l c + 1 - 1)=colr l c by rw [w64_id (by omega) (by omega)]; omega,h1,Option.bind_some]
    refine Yes.some ?_
    cases b with
    | true=>exact qskip rfl (hk2 _ (h2 rfl))
    | false=>exact qtake rfl (Yes.some (h3 rfl))
  ·refine qskip (by simp) (hk _ ?_)
   simpa using hJ
 ·refine qskip (by simp) ?_
  simpa [runL] using hI
def dcr (s:Span) (n:Nat):Span:=⟨max 0 (s.Low - n),max 0 (s.High - n)⟩
def yl (l:BoxLoom) (t:List Nat):List Span:=l.Shuttles.mapIdx fun i s=>dcr s.Yarn (t.count i)
theorem yl_len {l:BoxLoom} {t:List Nat}:(yl l t).length=l.Shuttles.length:=by simp [yl]
theorem yl_at {l:BoxLoom} {t:List Nat} {i:Nat} (h:i < (yl l t).length) (h':i < l.Shuttles.length):(yl l t)[i]=dcr l.Shuttles[i].Yarn (t.count i):=by simp [yl]
theorem yarn_rng {l:BoxLoom} (hl:LOk l) {i:Nat} (hi:i < l.Shuttles.length):0 ≤ l.Shuttles[i].Yarn.Low∧l.Shuttles[i].Yarn.Low ≤ l.Shuttles[i].Yarn.High∧l.Shuttles[i].Yarn.High ≤ 1000:=by
 have:=hl.sh _ (List.getElem_mem hi)
 unfold okS at this
 simp only [Bool.and_eq_true,decide_eq_true_eq] at this
 omega
theorem dcr0 {l:BoxLoom} (hl:LOk l) {i:Nat} (hi:i < l.Shuttles.length):dcr l.Shuttles[i].Yarn 0=l.Shuttles[i].Yarn:=by
 have:=yarn_rng hl hi
 unfold dcr
 rw [show max 0 (l.Shuttles[i].Yarn.Low - ((0:Nat):Int))=l.Shuttles[i].Yarn.Low by omega,show max 0 (l.Shuttles[i].Yarn.High - ((0:Nat):Int))=l.Shuttles[i].Yarn.High by omega]
theorem dcr_succ {s:Span} {n:Nat}:dcr s (n + 1)=⟨max 0 ((dcr s n).Low - 1),max 0 ((dcr s n).High - 1)⟩:=by
 unfold dcr
 congr 1 <;> (simp only; omega)
theorem yl_snoc {l:BoxLoom} {t:List Nat} {j:Nat} (hj:j < (yl l t).length):yl l (t ++ [j])=(yl l t).set j ⟨max 0 ((yl l t)[j].Low - 1),max 0 ((yl l t)[j].High - 1)⟩:=by
 have hj':j < l.Shuttles.length:=by rw [yl_len] at hj; exact hj
 apply List.ext_getElem (by simp [yl])
 intro i h1 h2
 have h3:i < l.Shuttles.length:=by rw [yl_len] at h1; exact h1
 rw [yl_at h1 h3,List.getElem_set]
 split
 ·rename_i he; subst he
  rw [List.count_append,List.count_singleton_self,dcr_succ,yl_at hj hj']
 ·rename_i he
  rw [List.count_append,yl_at _ h3,List.count_singleton]
  simp [he]
theorem s29 {l : BoxLoom} {ps : List BoxPick} (hl : LOk l) (hp : ∀ p ∈ ps, okP l.Boxes p = true) (hlen : ps.length ≤ 24) :
  f14 l ps=some (match thr l ps with | some _=>(yl l (thl l ps),0,0) | none=>([],((thl l ps).length:Int),9)):=by
 refine Yes.eq ?_
 unfold f14
 refine Yes.bind ((s70 hl hp hlen).mono fun y hy=>Yes.jn ?_)
 obtain ⟨y1,hy⟩:=hy
 cases ht:thr l ps with
 | none=>
  rw [ht] at hy
  have hy:y.2.2=(((thl l ps).length:Int),9):=hy
  refine qtake (by rw [hy]; rfl) (Yes.some ?_)
  rw [hy]
 | some n=>
  rw [ht] at hy
  obtain ⟨e1,e2,e3,e4⟩:=hy
  have hfew:=hl.few
  have htl:=thl_lt hl hp
  have hll:=thl_len (l:=l) (ps:=ps)
  refine qskip (by rw [e4]; rfl) ?_
  show Yes (Option.bind _ _) _
  rw [y1,e2]
  refine Yes.bind (Yes.upto l.Shuttles.length (by omega) (fun i t=>t=(l.Shuttles.take i).map (·.Yarn)) (by simp) (fun i t k hi hI hk=>?_) (fun t k hI=>?_))
  ·have hl2 : t.length ≤ 6 := by rw [hI]; simp; omega
   refine qtake (by simp; omega) (Yes.bind (qbind _ (qidx hi) (Yes.bind (Yes.apnd (by simp; omega) (by simp; omega) (Yes.some (hk _ ?_))))))
   rw [take_succ hi,List.map_append,hI]; rfl
  ·refine qskip (by simp) (Yes.some ?_)
   rw [List.take_length] at hI
   have h0:t=yl l []:=by
    rw [hI]
    apply List.ext_getElem (by simp [yl])
    intro i h1 h2
    have h3:i < l.Shuttles.length:=by simpa using h1
    rw [yl_at h2 h3,List.count_nil,dcr0 hl h3]; simp
   refine Yes.bind (Yes.upto (thl l ps).length (by omega) (fun i t=>t=yl l ((thl l ps).take i)) (by rw [h0]; simp) (fun i t k2 hi hI hk=>?_) (fun t k2 hI=>?_))
   ·have hti := htl _ (List.getElem_mem hi)
    have hw:w64 ((((thl l ps)[i]:Nat):Int) + 1 - 1)=(((thl l ps)[i]:Nat):Int):=by rw [w64_id (by omega) (by omega)]; omega
    have hjt:(thl l ps)[i] < t.length:=by rw [hI,yl_len]; exact hti
    have hy:=yarn_rng hl hti
    refine qtake (by simp; omega) (Yes.bind (qbind ((((thl l ps)[i]:Nat):Int) + 1) (by rw [qidx (by simpa using hi)]; simp) ?_))
    rw [hw]
    refine qbind _ (qidx hjt) (qbind _ (qidx hjt) (Yes.some (hk _ ?_)))
    subst hI
    rw [take_succ hi,yl_snoc hjt,Int.toNat_natCast]
    have hb:(yl l ((thl l ps).take i))[(thl l ps)[i]]=dcr l.Shuttles[(thl l ps)[i]].Yarn (((thl l ps).take i).count (thl l ps)[i]):=yl_at hjt hti
    have hc:((thl l ps).take i).count (thl l ps)[i] ≤ i:=Nat.le_trans List.count_le_length (by simp; omega)
    rw [max64_eq,max64_eq]
    rw [hb]
    unfold dcr
    simp only
    rw [w64_id (by omega) (by omega),w64_id (by omega) (by omega)]
   ·refine qskip (by simp) (Yes.some (Yes.some ?_))
    rw [List.take_length] at hI
    rw [hI]
theorem mget_mset {κ ν : Type} [DecidableEq κ] (k : κ) (v : ν) (k' : κ) : ∀ m : List (κ × ν), mget (mset m k v) k' = if k' = k then some v else mget m k'
 | []=>by
  unfold mset mget
  by_cases h:k'=k
  ·subst h; simp
  ·have : ¬ k = k' := fun e => h e.symm
   simp [h,this]
 | p :: m=>by
  have ih:=mget_mset k v k' m
  unfold mset
  by_cases hp:p.1=k
  ·rw [if_pos hp]
   by_cases h:k'=k
   ·subst h; unfold mget; simp
   ·have h1 : ¬ k = k' := fun e => h e.symm
    have h2:¬ p.1=k':=fun e=>h (e ▸ hp ▸ rfl)
    rw [if_neg h]; unfold mget; simp [h1,h2]
  ·rw [if_neg hp]
   by_cases h2:p.1=k'
   ·have h : ¬ k' = k := fun e => hp (h2.trans e)
    rw [if_neg h]; unfold mget; simp [h2]
   ·unfold mget at ih ⊢
    rw [List.find?_cons_of_neg (by simp [h2]),List.find?_cons_of_neg (by simp [h2])]
    exact ih
def bnd (l:BoxLoom) (b:Bool) (i:Nat):Int:=match l.Shuttles[i]? with | some s=>bif b then s.Yarn.High else s.Yarn.Low | none=>0
def OutP (b:Nat→Int) (t:List Nat) (i:Nat):Prop:=∃ h:i < t.length,(((t.take (i + 1)).count t[i]:Nat):Int) > b t[i]
def IsOut (b:Nat→Int) (t:List Nat) (r:Int):Prop:=(r=-1∧∀ i,¬ OutP b t i) ∨ ∃ n:Nat,r=n∧OutP b t n∧∀ i,i < n→¬ OutP b t i
theorem IsOut.one {b:Nat→Int} {t:List Nat} {r s:Int} (h:IsOut b t r) (k:IsOut b t s):r=s:=by
 rcases h with ⟨h,h1⟩ | ⟨n,h,h1,h2⟩ <;> rcases k with ⟨k,k1⟩ | ⟨m,k,k1,k2⟩
 ·rw [h,k]
 ·exact absurd k1 (h1 _)
 ·exact absurd h1 (k1 _)
 ·have:n=m:=by
   rcases Nat.lt_trichotomy n m with hh | hh | hh
   ·exact absurd h1 (k2 _ hh)
   ·exact hh
   ·exact absurd k1 (h2 _ hh)
  rw [h,k,this]
theorem bnd_at {l:BoxLoom} {b:Bool} {i:Nat} (h:i < l.Shuttles.length):bnd l b i=bif b then l.Shuttles[i].Yarn.High else l.Shuttles[i].Yarn.Low:=by
 unfold bnd; rw [List.getElem?_eq_getElem h]
theorem outI_succ {b:Nat→Int} {t:List Nat} {i:Nat} (h:∀ j,j < i→¬ OutP b t j) (h1:¬ OutP b t i):∀ j,j < i + 1→¬ OutP b t j:=fun j hj=>by
 by_cases he:j=i
 ·rw [he]; exact h1
 ·exact h j (by omega)
theorem outI_end {b:Nat→Int} {t:List Nat} (h:∀ j,j < t.length→¬ OutP b t j):IsOut b t (-1):=.inl ⟨rfl,fun i hi=>h i hi.1 hi⟩
theorem s73 {l : BoxLoom} {b : Bool} {t : List Nat} {φ : Span → Option Int} (hφ : ∀ s : Span, φ s = some (bif b then s.High else s.Low)) (hfew : l.Shuttles.length ≤ 6) (ht : ∀ i ∈ t, i < l.Shuttles.length) (hlen : t.length ≤ 30) :
  Yes (f40 ⟨l⟩ (t.map fun i:Nat=>(i:Int) + 1) φ) (IsOut (bnd l b) t):=by
 unfold f40 idxS
 refine Yes.jn (Yes.upto t.length (by omega) (fun i m=>(∀ k:Nat,(mget m ((k:Int) + 1)).getD 0=(((t.take i).count k:Nat):Int))∧∀ j,j < i→¬ OutP (bnd l b) t j) ⟨fun k=>by simp [mget],fun j hj=>absurd hj (Nat.not_lt_zero _)⟩ (fun i m k hi hI hk=>?_) (fun m k hI=>?_))
 ·obtain ⟨h1, h2⟩ := hI
  have hti:=ht _ (List.getElem_mem hi)
  have hc:((t.take i).count t[i]) ≤ i:=Nat.le_trans List.count_le_length (by simp; omega)
  have hw:w64 ((mget m ((t[i]:Int) + 1)).getD 0 + 1)=(((t.take (i + 1)).count t[i]:Nat):Int):=by
   rw [h1,w64_id (by omega) (by omega),take_succ hi,List.count_append,List.count_singleton_self]; simp
  refine qtake (by simp; omega) (Yes.jn (qbind ((t[i]:Int) + 1) (by rw [qidx (by simpa using hi)]; simp) (qbind (decide ((((t.take (i + 1)).count t[i]:Nat):Int) > bnd l b t[i]),mset m ((t[i]:Int) + 1) (((t.take (i + 1)).count t[i]:Nat):Int)) ?_ ?_)))
  ·show f63 _ _ _ _ = _
   unfold f63
   have hidx:idx l.Shuttles (w64 ((t[i]:Int) + 1 - 1))=some (l.Shuttles[t[i]]):=by
    rw [w64_id (by omega) (by omega),show (t[i]:Int) + 1 - 1=(t[i]:Int) by omega]; exact qidx hti
   show ((idx l.Shuttles (w64 ((t[i]:Int) + 1 - 1))).bind _)=_
   rw [hidx,Option.bind_some,hφ,Option.bind_some,hw,mget_mset,if_pos rfl,bnd_at hti]
   rfl
  ·refine Yes.cond (fun hc => Yes.some (.inr ⟨i, rfl, ⟨hi, of_decide_eq_true hc⟩, h2⟩)) (fun hc => hk _ ⟨fun q => ?_, outI_succ h2 fun ⟨_, h⟩ => of_decide_eq_false hc h⟩)
   show (mget (mset m ((t[i]:Int) + 1) (((t.take (i + 1)).count t[i]:Nat):Int)) ((q:Int) + 1)).getD 0=_
   rw [mget_mset]
   by_cases hq:q=t[i]
   ·rw [if_pos (by rw [hq]),hq]; rfl
   ·rw [if_neg (by omega), h1, take_succ hi, List.count_append, List.count_singleton]
    have:¬ t[i]=q:=fun e=>hq e.symm
    simp [this]
 ·exact qskip (by simp) (Yes.some (outI_end hI.2))
theorem s30 {l : BoxLoom} {ps : List BoxPick} (hl : LOk l) (hp : ∀ p ∈ ps, okP l.Boxes p = true) (hlen : ps.length ≤ 24) :
  Yes (f15 l ps) (fun r=>match thr l ps with | some _=>IsOut (bnd l false) (thl l ps) r.1∧IsOut (bnd l true) (thl l ps) r.2.1∧r.2.2=0 | none=>r=(0,0,9)):=by
 unfold f15
 refine Yes.bind ((s70 hl hp hlen).mono fun y hy=>Yes.jn ?_)
 obtain ⟨y1,hy⟩:=hy
 have htl:=thl_lt hl hp
 have hll:=thl_len (l:=l) (ps:=ps)
 cases ht:thr l ps with
 | none=>
  rw [ht] at hy
  have hy:y.2.2=(((thl l ps).length:Int),9):=hy
  refine qtake (by rw [hy]; rfl) (Yes.some ?_)
  rw [hy]
 | some n=>
  rw [ht] at hy
  obtain ⟨e1,e2,e3,e4⟩:=hy
  refine qskip (by rw [e4]; rfl) ?_
  rw [y1,e2]
  refine Yes.bind ((s73 (b:=false) (fun s=>rfl) hl.few htl (by omega)).mono fun a ha=>Yes.bind ((s73 (b:=true) (fun s=>rfl) hl.few htl (by omega)).mono fun c hc=>Yes.some ⟨ha,hc,rfl⟩))
def never:Int:=1073741824
theorem runL_upto {σ α : Type} {cons : Cons σ α} {Q : σ → Prop} : ∀ (xs : List α) (I : Nat → σ → Prop) (s0 : σ), I 0 s0 → (∀ i (h : i < xs.length) s, I i s → Yes (cons s xs[i]) (fun r => r.1 = true ∧ I (i + 1) r.2)) → (∀ s, I xs.length s → Q s) → Yes (runL cons xs s0) Q
 | [],I,s0,h0,_,he=>Yes.some (he s0 h0)
 | x :: xs,I,s0,h0,hb,he=>by
  rw [runL]
  obtain ⟨r,hr,h1,h2⟩:=hb 0 (by simp) s0 h0
  rw [List.getElem_cons_zero] at hr
  rw [hr,Option.bind_some,h1]
  exact runL_upto xs (fun i=>I (i + 1)) r.2 h2 (fun i h s hI=>hb (i + 1) (by simpa using h) s hI) (fun s hI=>he s hI)
noncomputable def cstS (A:BoxPoint→BoxStep→Option (BoxPoint × Bool)) (F:BoxPoint→Int) (pt:BoxPoint) (b:Int) (s:BoxPick × BoxStep):Int:=match A pt s.2 with | some (to,true)=>min b (s.2.moves + F to) | _=>b
noncomputable def pkR (B0 B1:Nat) (r:BoxRace):List (BoxPick × BoxStep):=(pkL B0 B1).filterMap fun p=>match f75 r p with | some (n,t,m)=>if t > 0 then some (p,⟨n,t - 1,m⟩) else none | none=>none
theorem fmap_congr {α β : Type} {f g : α → Option β} : ∀ (xs : List α), (∀ x ∈ xs, f x = g x) → xs.filterMap f = xs.filterMap g
 | [],_=>rfl
 | x :: xs,h=>by rw [List.filterMap_cons,List.filterMap_cons,h x (by simp),fmap_congr xs fun y hy=>h y (by simp [hy])]
theorem pkR_rc {l:BoxLoom} (hl:LOk l):pkR (nbx l 0) (nbx l 1) (rc l)=stL l:=by
 unfold pkR stL
 refine fmap_congr _ fun p hp=>?_
 have hok:=(mem_allP hl).1 hp
 rw [rc_p hl hok]
 unfold stp
 cases ho:oneL l p with
 | none=>simp
 | some x=>
  obtain ⟨n,i,m⟩:=x
  have:=colr_nn hl i
  show (if colr l i + 1 > 0 then some (p,(⟨rc n,colr l i + 1 - 1,m⟩:BoxStep)) else none)=some (p,⟨rc n,colr l i,m⟩)
  rw [if_pos (by omega),show colr l i + 1 - 1=colr l i by omega]
noncomputable def cst (B0 B1 : Nat) (A : BoxPoint → BoxStep → Option (BoxPoint × Bool)) : Nat → BoxPoint → Int
 | 0,_=>0
 | k + 1,pt=>(pkR B0 B1 pt.race).foldl (cstS A (cst B0 B1 A k) pt) never
structure Pts (gs : List (List Int)) (V : BoxPoint → Nat → Prop) : Prop where
 zero:∀ {pt k},V pt k→(pt.group=(gs.length:Int) ↔ k=0)
 one:∀ {pt k k'},V pt k→V pt k'→k=k'
 step:∀ {pt k} (s:BoxStep),V pt (k + 1)→∃ to b,f58 pt gs s=some (to,b)∧(b=true→to.race=s.next∧V to k)
structure KOk (B0 B1 : Nat) (gs : List (List Int)) (V : BoxPoint → Nat → Prop) (m : List (BoxPoint × Int)) : Prop where
 ok:∀ {pt v k},mget m pt=some v→V pt k→v=cst B0 B1 (fun p s=>f58 p gs s) k pt
end Go.Proofs.YtkfdjkkbnfohjaaGreat
