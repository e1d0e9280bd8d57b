/- Plain laws: what box.Throw answers. -/
import Derived.Test.YtmpjooneiaiffaaLawI
set_option maxRecDepth 8000
namespace Go.Proofs.Ytmpjooneiaiffaa
open Go.RowKit
open Classical

def colr (l:BoxLoom) (i:Nat):Int:=(l.Shuttles[i]?.map (·.Colour)).getD 0
theorem colr_at {l:BoxLoom} {i:Nat} (h:i < l.Shuttles.length):colr l i=l.Shuttles[i].Colour:=by unfold colr; rw [List.getElem?_eq_getElem h]; rfl
theorem thr_same {ps:List BoxPick}:∀ {l n:BoxLoom},LOk l→(∀ p ∈ ps,okP l.Boxes p=true)→thr l ps=some n→∀ {i:Nat} (h:i < l.Shuttles.length) (h':i < n.Shuttles.length),n.Shuttles[i]={ l.Shuttles[i] with Side:=n.Shuttles[i].Side,Box:=n.Shuttles[i].Box }:=by
 induction ps with
 | nil=>intro l n _ _ h i h1 h2; cases h; rfl
 | cons p ps ih=>
  intro l n hl hp h i h1 h2
  rw [thr_cons] at h
  cases ho:oneL l p with
  | none=>rw [ho] at h; cases h
  | some x=>
   obtain ⟨a,j,m⟩:=x
   rw [ho] at h
   obtain ⟨k1,k2,k3,_⟩:=oneL_ok hl (hp p (by simp)) ho
   have hia:i < a.Shuttles.length:=by omega
   have:=ih k1 (fun q hq=>by rw [k2]; exact hp q (by simp [hq])) h hia h2
   rw [this]
   obtain ⟨_,_,_,h4⟩:=oneL_some hl.dst ho
   have key:∀ s c,a.Shuttles=mv l.Shuttles j s c→∀ s' c',({ a.Shuttles[i] with Side:=s',Box:=c' }:BoxShuttle)={ l.Shuttles[i] with Side:=s',Box:=c' }:=fun s c e s' c'=>by
    have:a.Shuttles[i]=(mv l.Shuttles j s c)[i]'(by rw [mv_len]; exact h1):=by simp only [e]
    rw [this,mv_at _ h1]
    split <;> rfl
   rcases h4 with ⟨e,_⟩ | ⟨e,_⟩
   ·exact key _ _ e _ _
   ·exact key _ _ e _ _
theorem thl_lt {ps:List BoxPick}:∀ {l:BoxLoom},LOk l→(∀ p ∈ ps,okP l.Boxes p=true)→∀ i ∈ thl l ps,i < l.Shuttles.length:=by
 induction ps with
 | nil=>intro l _ _ i h; rw [thl] at h; cases h
 | cons p ps ih=>
  intro l hl hp i h
  rw [thl] at h
  cases ho:oneL l p with
  | none=>rw [ho] at h; cases h
  | some x=>
   obtain ⟨a,j,m⟩:=x
   rw [ho] at h
   obtain ⟨k1,k2,k3,k4,_⟩:=oneL_ok hl (hp p (by simp)) ho
   rcases List.mem_cons.1 h with rfl | h
   ·exact k4
   ·have := ih k1 (fun q hq => by rw [k2]; exact hp q (by simp [hq])) i h
    omega
theorem thl_len {ps:List BoxPick}:∀ {l:BoxLoom},(thl l ps).length ≤ ps.length:=by
 induction ps with
 | nil=>intro l; rw [thl]; exact Nat.le_refl _
 | cons p ps ih=>
  intro l
  rw [thl]
  cases ho:oneL l p with
  | none=>exact Nat.zero_le _
  | some x=>exact Nat.succ_le_succ ih
theorem loom_eta {l n:BoxLoom} (hn:LOk n) (hb:n.Boxes=l.Boxes):(⟨l.Boxes,[n.At.getD 0 0,n.At.getD 1 0],n.Shuttles⟩:BoxLoom)=n:=by
 obtain ⟨B,A,S⟩:=n
 have h:=hn.len.2
 simp only at hb h
 subst hb
 match A,h with
 | [a,b],_=>rfl
theorem s70 {l : BoxLoom} {ps : List BoxPick} (hl : LOk l) (hp : ∀ p ∈ ps, okP l.Boxes p = true) (hlen : ps.length ≤ 24) :
  Yes (f70 l ps) (fun x=>x.1=⟨l⟩∧match thr l ps with | some n=>Rel x.2.1.last n∧x.2.1.thrown=(thl l ps).map (fun i:Nat=>(i:Int) + 1)∧x.2.1.moves=mvt l ps∧x.2.2=(0,0) | none=>x.2.2=(((thl l ps).length:Int),9)):=by
 have hck:chkP l ps=0:=by
  unfold chkP; rw [if_neg (fun h=>h (chk0.2 hl)),if_neg (by omega),if_neg (fun h=>h hp)]
 unfold f70
 refine Yes.jn (qbind _ (s74 l ps hl.sml (by omega)) (qskip (by rw [hck]; rfl) (Yes.bind ((s54 hl).mono fun r hr=>Yes.bind ((s76x hl hr hp hlen).mono fun x hx=>Yes.some ⟨rfl,hx⟩)))))
theorem s40 {l : BoxLoom} {ps : List BoxPick} (hl : LOk l) (hp : ∀ p ∈ ps, okP l.Boxes p = true) (hlen : ps.length ≤ 24) :
  f40 l ps=some (match thr l ps with | some n=>((thl l ps).map (colr l),n,mvt l ps,0,0) | none=>([],⟨[],[],[]⟩,0,((thl l ps).length:Int),9)):=by
 refine Yes.eq ?_
 unfold f40
 refine Yes.bind ((s70 hl hp hlen).mono fun y hy=>Yes.jn ?_)
 obtain ⟨y1,hy⟩:=hy
 cases ht:thr l ps with
 | none=>
  rw [ht] at hy
  have hy:y.2.2=(((thl l ps).length:Int),9):=hy
  refine qtake (by rw [hy]; rfl) (Yes.some ?_)
  rw [hy]
 | some n=>
  rw [ht] at hy
  obtain ⟨e1,e2,e3,e4⟩:=hy
  obtain ⟨k1,k2,k3⟩:=thr_ok hl hp ht
  have hfew:=hl.few
  have htl:=thl_lt hl hp
  have hll:=thl_len (l:=l) (ps:=ps)
  have hnd:∀ {i:Nat} (h:i < l.Shuttles.length) (h':i < n.Shuttles.length),n.Shuttles[i]={ l.Shuttles[i] with Side:=n.Shuttles[i].Side,Box:=n.Shuttles[i].Box }:=fun h h'=>thr_same hl hp ht h h'
  refine qskip (by rw [e4]; rfl) ?_
  show Yes (Option.bind _ _) _
  rw [y1,e2]
  refine Yes.bind (Yes.upto (thl l ps).length (by omega) (fun i t=>t=((thl l ps).take i).map (colr l)) (by simp) (fun i t k hi hI hk=>?_) (fun t k hI=>?_))
  ·have hti := htl _ (List.getElem_mem hi)
   refine qtake (by simp; omega) (Yes.bind (qbind ((((thl l ps)[i]:Nat):Int) + 1) (by rw [qidx (by simpa using hi)]; simp) (qbind (l.Shuttles[(thl l ps)[i]]) (by rw [w64_id (by omega) (by omega),show (((thl l ps)[i]:Nat):Int) + 1 - 1=(((thl l ps)[i]:Nat):Int) by omega]; exact qidx hti) (Yes.bind (Yes.apnd ?_ ?_ (Yes.some (hk _ ?_)))))))
   ·rw [hI]; simp; omega
   ·rw [hI]; simp; omega
   ·rw [take_succ hi,List.map_append,← hI,List.map_cons,List.map_nil,colr_at hti]
  ·refine qskip (by simp) (Yes.some ?_)
   rw [List.take_length] at hI
   subst hI
   refine qbind l.Boxes (show apnd 8 [] l.Boxes=_ by have:=hl.len.1; unfold apnd; rw [if_pos (by simp; omega)]; rfl) (qbind l.Shuttles (show apnd 40 [] l.Shuttles=_ by unfold apnd; rw [if_pos (by simp; omega)]; rfl) (Yes.bind ?_))
   -- the places
   let I:Nat→BoxLoom→Prop:=fun m q=>q.Boxes=l.Boxes∧q.At=[n.At.getD 0 0,n.At.getD 1 0]∧q.Shuttles.length=l.Shuttles.length∧∀ i (h1:i < q.Shuttles.length) (h2:i < n.Shuttles.length) (h3:i < l.Shuttles.length),(plc n.Shuttles[i] < m→q.Shuttles[i]=n.Shuttles[i])∧(¬ plc n.Shuttles[i] < m→q.Shuttles[i]=l.Shuttles[i])
   refine Yes.upto 2 (by omega) (fun s q=>I (4 * s) q) ⟨rfl,by rw [e1.at_],rfl,fun i h1 h2 h3=>⟨fun h=>absurd h (by omega),fun _=>rfl⟩⟩ (fun s q k hs hI hk=>?_) (fun q k hI=>?_)
   ·refine qtake (by simp; omega) (Yes.bind (qbind _ (vidx _ hs) (Yes.upto 4 (by omega) (fun b q => I (4 * s + b) q) hI (fun b q k hb hI hk2 => ?_) (fun q k2 hI => ?_))))
    ·obtain ⟨j1, j2, j3, j4⟩ := hI
     have hbx:=e1.bx s b hs hb
     refine qtake (by simp; omega) (Yes.bind (qbind _ (vidx _ hb) ?_))
     rcases inX_cases k1.dst s b with ⟨i,hi,e⟩ | ⟨hi,e⟩
     ·rw [e] at hbx
      obtain ⟨hin,hp1⟩:=isAt_plc k1 hi
      have hil:i < l.Shuttles.length:=by omega
      have hiq:i < q.Shuttles.length:=by omega
      simp only [Int.toNat_natCast] at hp1
      have hw:w64 ((y.2.1).last.boxes[s][b] - 1)=(i:Int):=by rw [hbx,w64_id (by omega) (by omega)]; omega
      refine qtake (decide_eq_true (by rw [hbx]; omega)) ?_
      rw [hw]
      refine qbind _ (qidx hiq) (qbind { q.Shuttles[i] with Side:=(s:Int) } ?_ (Yes.some (hk2 _ ⟨j1,j2,?_,fun a h1 h2 h3=>?_⟩)))
      ·rw [Int.toNat_natCast]
       show idx (q.Shuttles.set i _) (i:Int)=_
       rw [qidx (by rw [List.length_set]; exact hiq),List.getElem_set_self]
      ·simp only [List.length_set]; exact j3
      ·have hset : (q.Shuttles.set i { q.Shuttles[i] with Side := (s : Int) }).set i { { q.Shuttles[i] with Side := (s : Int) } with Box := (b : Int) } = mv q.Shuttles i s b := set_set hiq s b
       have haq:a < q.Shuttles.length:=by omega
       have hval:∀ (h1':a < (mv q.Shuttles i s b).length),(plc n.Shuttles[a] < 4 * s + (b + 1)→(mv q.Shuttles i s b)[a]=n.Shuttles[a])∧(¬ plc n.Shuttles[a] < 4 * s + (b + 1)→(mv q.Shuttles i s b)[a]=l.Shuttles[a]):=fun h1'=>by
        rw [mv_at h1' haq]
        by_cases hia:i=a
        ·subst hia
         rw [if_pos rfl,(j4 i hiq h2 h3).2 (by omega),hnd h3 h2,hi.2.1,hi.2.2]
         exact ⟨fun _=>rfl,fun h=>absurd hp1 (by rw [hnd h3 h2,hi.2.1,hi.2.2] at hp1 ⊢; omega)⟩
        ·rw [if_neg hia]
         have hne:plc n.Shuttles[a] ≠ 4 * s + b:=fun h=>hia (k1.dst.one hi (plc_isAt k1 hs hb h2 (by omega)))
         exact ⟨fun h=>(j4 a haq h2 h3).1 (by omega),fun h=>(j4 a haq h2 h3).2 (by omega)⟩
       have:=hval (by rw [mv_len]; exact haq)
       simpa only [Int.toNat_natCast,hset] using this
     ·rw [e] at hbx
      refine qskip (decide_eq_false (by rw [hbx]; omega)) (Yes.some (hk2 _ ⟨j1,j2,j3,fun a h1 h2 h3=>?_⟩))
      have hne:plc n.Shuttles[a] ≠ 4 * s + b:=fun h=>hi ⟨a,plc_isAt k1 hs hb h2 (by omega)⟩
      exact ⟨fun h=>(j4 a h1 h2 h3).1 (by omega),fun h=>(j4 a h1 h2 h3).2 (by omega)⟩
    ·exact qskip (by simp) (Yes.some (hk _ (by rw [show 4 * (s + 1)=4 * s + 4 by omega]; exact hI)))
   ·obtain ⟨j1, j2, j3, j4⟩ := hI
    refine qskip (by simp) (Yes.some (Yes.some ?_))
    have hq:q=n:=by
     rw [← loom_eta k1 k2]
     obtain ⟨B,A,S⟩:=q
     simp only at j1 j2 j3 j4
     subst j1; subst j2
     have:S=n.Shuttles:=List.ext_getElem (by omega) fun i h1 h2=>(j4 i h1 h2 (by omega)).1 (by have:=plc_lt k1 (List.getElem_mem h2); omega)
     rw [this]
    rw [hq,e3]
end Go.Proofs.Ytmpjooneiaiffaa
/- Plain laws: full, and standing. -/
set_option maxRecDepth 8000
namespace Go.Proofs.Ytmpjooneiaiffaa
open Go.RowKit
open Classical

def BxV (v:Vector (Vector Int 4) 2) (l:BoxLoom):Prop:=∀ (s b:Nat) (hs:s < 2) (hb:b < 4),v[s][b]=inX l.Shuttles s b + 1
theorem s45 {l:BoxLoom} (hl:LOk l):Yes (f45 l) (fun v=>BxV v l):=by
 have hf:=hl.few
 unfold f45
 refine Yes.bind (Yes.upto l.Shuttles.length (by omega) (fun n t=>∀ (s b:Nat) (hs:s < 2) (hb:b < 4),(∀ j,j < n→isAt l.Shuttles s b j→t[s][b]=(j:Int) + 1)∧((∀ j,j < n→¬ isAt l.Shuttles s b j)→t[s][b]=0)) ?_ (fun i t k hi hI hk=>?_) (fun t k hI=>?_))
 ·intro s b hs hb
  refine ⟨fun j h=>absurd h (Nat.not_lt_zero _),fun _=>?_⟩
  rcases (by omega:s=0 ∨ s=1) with rfl | rfl <;> rcases (by omega:b=0 ∨ b=1 ∨ b=2 ∨ b=3) with rfl | rfl | rfl | rfl <;> rfl
 ·have hok := okS_plc hl (List.getElem_mem hi)
  obtain ⟨S,hS⟩:∃ S:Nat,l.Shuttles[i].Side=S:=⟨l.Shuttles[i].Side.toNat,by omega⟩
  obtain ⟨B,hB⟩:∃ B:Nat,l.Shuttles[i].Box=B:=⟨l.Shuttles[i].Box.toNat,by omega⟩
  have hS2:S < 2:=by omega
  have hB4:B < 4:=by omega
  refine Yes.jn (qtake (by simp; omega) (Yes.jn (Yes.bind (qbind _ (qidx hi) (qbind _ (qidx hi) ?_)))))
  rw [hS,hB,w64_id (n:=(i:Int) + 1) (by omega) (by omega)]
  refine qbind _ (vidx t hS2) (qbind _ (vidx _ hB4) (Yes.some ?_))
  have hk:=hk (vmod t (S:Int) (fun b=>vset b (B:Int) ((i:Int) + 1)))
  rw [w64_id (n:=(i:Int) + 1) (by omega) (by omega)] at hk
  refine hk fun s b hs hb=>?_
  have hat:isAt l.Shuttles S B i:=⟨hi,hS,hB⟩
  obtain ⟨o1,o2⟩:=hI s b hs hb
  by_cases hsb:S=s∧B=b
  ·obtain ⟨rfl, rfl⟩ := hsb
   have hv:(vmod t (S:Int) (fun b=>vset b (B:Int) ((i:Int) + 1)))[S][B]=(i:Int) + 1:=by
    rw [vmod_at hs,if_pos rfl,vset_at hb,if_pos rfl]
   rw [hv]
   exact ⟨fun j _ hj=>by rw [hl.dst.one hj hat],fun h=>absurd hat (h i (by omega))⟩
  ·have hv:(vmod t (S:Int) (fun b=>vset b (B:Int) ((i:Int) + 1)))[s][b]=t[s][b]:=by
    by_cases hss:S=s
    ·subst hss
     rw [vmod_at hs,if_pos rfl,vset_at hb,if_neg (fun h=>hsb ⟨rfl,h⟩)]
    ·rw [vmod_at hs,if_neg hss]
   rw [hv]
   refine ⟨fun j hj hja=>?_,fun h=>o2 fun j hj=>h j (by omega)⟩
   rcases Nat.lt_succ_iff_lt_or_eq.1 hj with h | rfl
   ·exact o1 j h hja
   ·have := isAt_same hat hja
    exact absurd ⟨by omega,by omega⟩ hsb
 ·refine Yes.jn (qskip (by simp) (Yes.some (Yes.some fun s b hs hb => ?_)))
  obtain ⟨o1,o2⟩:=hI s b hs hb
  rcases inX_cases hl.dst s b with ⟨i,hi,e⟩ | ⟨hi,e⟩
  ·rw [e,o1 i hi.1 hi]
  ·rw [e,o2 fun j _ h=>hi ⟨j,h⟩]; rfl
structure Smb (n l : BoxLoom) : Prop where
 bx:n.Boxes=l.Boxes
 len:n.Shuttles.length=l.Shuttles.length
 sm:∀ i (h:i < n.Shuttles.length) (h':i < l.Shuttles.length),n.Shuttles[i].Colour=l.Shuttles[i].Colour∧n.Shuttles[i].Yarn=l.Shuttles[i].Yarn
theorem thr_smb {l n:BoxLoom} {ps:List BoxPick} (hl:LOk l) (hp:∀ p ∈ ps,okP l.Boxes p=true) (h:thr l ps=some n):Smb n l:=by
 obtain ⟨k1,k2,k3⟩:=thr_ok hl hp h
 exact ⟨k2,k3,fun i h1 h2=>by rw [thr_same hl hp h h2 h1]; exact ⟨rfl,rfl⟩⟩
theorem Smb.trans {a b c:BoxLoom} (h:Smb a b) (k:Smb b c):Smb a c:=⟨h.bx.trans k.bx,h.len.trans k.len,fun i h1 h2=>by
 have h3:i < b.Shuttles.length:=by rw [k.len]; exact h2
 exact ⟨(h.sm i h1 h3).1.trans (k.sm i h3 h2).1,(h.sm i h1 h3).2.trans (k.sm i h3 h2).2⟩⟩
theorem s41 {n l m : BoxLoom} (hn : LOk n) (hm : LOk m) (hs : Smb n l) (hml : m.Shuttles.length = n.Shuttles.length) {v : Vector (Vector Int 4) 2} (hv : BxV v m) :
  f41 n l v=some (decide (Wh n.Shuttles m.Shuttles)):=by
 have hf:=hn.few
 have hlb:len2 n:=hn.len
 have key:(∀ i (h:i < n.Shuttles.length),isAt m.Shuttles n.Shuttles[i].Side n.Shuttles[i].Box i) ↔ Wh n.Shuttles m.Shuttles:=by
  constructor
  ·intro h s c i
   constructor
   ·rintro ⟨h1,rfl,rfl⟩; exact h i h1
   ·intro h1
    have hi:i < n.Shuttles.length:=by rw [← hml]; exact h1.1
    have:=isAt_same (h i hi) h1
    exact ⟨hi,this.1,this.2⟩
  ·intro h i hi; exact (h _ _ _).1 ⟨hi,rfl,rfl⟩
 have hb0:idx n.Boxes (0:Int)=some (n.Boxes.getD 0 0):=box_at hlb (i:=0) (by omega)
 have hb1:idx n.Boxes (1:Int)=some (n.Boxes.getD 1 0):=box_at hlb (i:=1) (by omega)
 refine Yes.eq ?_
 unfold f41
 refine Yes.jn (Yes.bind (qskip (bne_eq_false_iff_eq.2 (by rw [hs.len])) (qskip (bne_eq_false_iff_eq.2 (by have:=hlb.1; omega)) (qbind _ hb0 (qbind _ (by rw [← hs.bx]; exact hb0) (qskip (by simp) (qbind _ hb1 (qbind _ (by rw [← hs.bx]; exact hb1) (Yes.some ?_)))))))))
 refine qskip (by simp) (Yes.jn ?_)
 refine Yes.upto0 n.Shuttles.length (by omega) (fun i=>∀ j (h1:j < n.Shuttles.length),j < i→isAt m.Shuttles n.Shuttles[j].Side n.Shuttles[j].Box j) (fun _ _ h=>absurd h (Nat.not_lt_zero _)) (fun i k hi hI hk=>?_) (fun k hI=>?_)
 ·have hil : i < l.Shuttles.length := by rw [← hs.len]; exact hi
  have hsm:=hs.sm i hi hil
  have hok:=okS_plc hn (List.getElem_mem hi)
  obtain ⟨S,hS⟩:∃ S:Nat,n.Shuttles[i].Side=S:=⟨n.Shuttles[i].Side.toNat,by omega⟩
  obtain ⟨B,hB⟩:∃ B:Nat,n.Shuttles[i].Box=B:=⟨n.Shuttles[i].Box.toNat,by omega⟩
  have hS2:S < 2:=by omega
  have hB4:B < 4:=by omega
  refine Yes.jn (qtake (by simp; omega) (Yes.jn (qbind _ (qidx hi) (qbind _ (qidx hil) (Yes.bind (Yes.mono (Q':=fun r=>r=!decide (isAt m.Shuttles n.Shuttles[i].Side n.Shuttles[i].Box i)) ?_ fun r hr=>?_)))))) 
  ·refine qskip (by rw [hsm.1]; simp) (qskip (by rw [hsm.2]; simp) (qskip (decide_eq_false (by omega)) (qskip (decide_eq_false (by omega)) (qskip (decide_eq_false (by omega)) (qskip (decide_eq_false (by omega)) ?_)))))
   rw [hS,hB]
   refine qbind _ (vidx v hS2) (qbind _ (vidx _ hB4) (Yes.some ?_))
   rw [hv S B hS2 hB4,w64_id (by omega) (by omega)]
   rcases inX_cases hm.dst S B with ⟨j,hj,e⟩ | ⟨hj,e⟩
   ·rw [e]
    by_cases hij:i=j
    ·subst hij; rw [decide_eq_true hj]; simp
    ·rw [decide_eq_false (fun h => hij (hm.dst.one h hj))]
     have:¬ (j:Int)=(i:Int):=by omega
     simp [this]
   ·rw [e, decide_eq_false (fun h => hj ⟨i, h⟩)]
    have:¬ (-1:Int) + 1=(i:Int) + 1:=by omega
    simp; omega
  ·subst hr
   refine Yes.cond (fun hc=>Yes.some ?_) (fun hc=>hk fun j h1 hj=>?_)
   ·refine (decide_eq_false fun hw => ?_).symm
    rw [decide_eq_true (key.2 hw i hi)] at hc; cases hc
   ·rcases Nat.lt_succ_iff_lt_or_eq.1 hj with h | rfl
    ·exact hI j h1 h
    ·exact of_decide_eq_true (by simpa using hc)
 ·exact Yes.jn (qskip (by simp) (Yes.some (decide_eq_true (key.1 fun j h1=>hI j h1 h1)).symm))
end Go.Proofs.Ytmpjooneiaiffaa
