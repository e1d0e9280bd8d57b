/- Plain laws: what box.Throw answers. -/
import Derived.Test.YtmpjooneiaiffaaLawI
set_option maxRecDepth 8000
namespace Go.Proofs.Ytmpjooneiaiffaa
open Go.RowKit
open Classical

def colr (l:BoxLoom) (i:Nat):Int:=(l.Shuttles[i]?.map (·.Colour)).getD 0
theorem colr_at {l:BoxLoom} {i:Nat} (h:i < l.Shuttles.length):colr l i=l.Shuttles[i].Colour:=by unfold colr; rw [List.getElem?_eq_getElem h]; rfl
theorem thr_same {ps:List BoxPick}:∀ {l n:BoxLoom},LOk l→(∀ p ∈ ps,okP l.Boxes p=true)→thr l ps=some n→∀ {i:Nat} (h:i < l.Shuttles.length) (h':i < n.Shuttles.length),n.Shuttles[i]={ l.Shuttles[i] with Side:=n.Shuttles[i].Side,Box:=n.Shuttles[i].Box }:=by
 induction ps with
 | nil=>intro l n _ _ h i h1 h2; cases h; rfl
 | cons p ps ih=>
  intro l n hl hp h i h1 h2
  rw [thr_cons] at h
  cases ho:oneL l p with
  | none=>rw [ho] at h; cases h
  | some x=>
   obtain ⟨a,j,m⟩:=x
   rw [ho] at h
   obtain ⟨k1,k2,k3,_⟩:=oneL_ok hl (hp p (by simp)) ho
   have hia:i < a.Shuttles.length:=by omega
   have:=ih k1 (fun q hq=>by rw [k2]; exact hp q (by simp [hq])) h hia h2
   rw [this]
   obtain ⟨_,_,_,h4⟩:=oneL_some hl.dst ho
   have key:∀ s c,a.Shuttles=mv l.Shuttles j s c→∀ s' c',({ a.Shuttles[i] with Side:=s',Box:=c' }:BoxShuttle)={ l.Shuttles[i] with Side:=s',Box:=c' }:=fun s c e s' c'=>by
    have:a.Shuttles[i]=(mv l.Shuttles j s c)[i]'(by rw [mv_len]; exact h1):=by simp only [e]
    rw [this,mv_at _ h1]
    split <;> rfl
   rcases h4 with ⟨e,_⟩ | ⟨e,_⟩
   ·exact key _ _ e _ _
   ·exact key _ _ e _ _
theorem thl_lt {ps:List BoxPick}:∀ {l:BoxLoom},LOk l→(∀ p ∈ ps,okP l.Boxes p=true)→∀ i ∈ thl l ps,i < l.Shuttles.length:=by
 induction ps with
 | nil=>intro l _ _ i h; rw [thl] at h; cases h
 | cons p ps ih=>
  intro l hl hp i h
  rw [thl] at h
  cases ho:oneL l p with
  | none=>rw [ho] at h; cases h
  | some x=>
   obtain ⟨a,j,m⟩:=x
   rw [ho] at h
   obtain ⟨k1,k2,k3,k4,_⟩:=oneL_ok hl (hp p (by simp)) ho
   rcases List.mem_cons.1 h with rfl | h
   ·exact k4
   ·have := ih k1 (fun q hq => by rw [k2]; exact hp q (by simp [hq])) i h
    omega
theorem thl_len {ps:List BoxPick}:∀ {l:BoxLoom},(thl l ps).length ≤ ps.length:=by
 induction ps with
 | nil=>intro l; rw [thl]; exact Nat.le_refl _
 | cons p ps ih=>
  intro l
  rw [thl]
  cases ho:oneL l p with
  | none=>exact Nat.zero_le _
  | some x=>exact Nat.succ_le_succ ih
theorem loom_eta {l n:BoxLoom} (hn:LOk n) (hb:n.Boxes=l.Boxes):(⟨l.Boxes,[n.At.getD 0 0,n.At.getD 1 0],n.Shuttles⟩:BoxLoom)=n:=by
 obtain ⟨B,A,S⟩:=n
 have h:=hn.len.2
 simp only at hb h
 subst hb
 match A,h with
 | [a,b],_=>rfl
theorem s70 {l : BoxLoom} {ps : List BoxPick} (hl : LOk l) (hp : ∀ p ∈ ps, okP l.Boxes p = true) (hlen : ps.length ≤ 24) :
  Yes (f70 l ps) (fun x=>x.1=⟨l⟩∧match thr l ps with | some n=>Rel x.2.1.last n∧x.2.1.thrown=(thl l ps).map (fun i:Nat=>(i:Int) + 1)∧x.2.1.moves=mvt l ps∧x.2.2=(0,0) | none=>x.2.2=(((thl l ps).length:Int),9)):=by
 have hck:chkP l ps=0:=by
  unfold chkP; rw [if_neg (fun h=>h (chk0.2 hl)),if_neg (by omega),if_neg (fun h=>h hp)]
 unfold f70
 refine Yes.jn (qbind _ (s74 l ps hl.sml (by omega)) (qskip (by rw [hck]; rfl) (Yes.bind ((s54 hl).mono fun r hr=>Yes.bind ((s76x hl hr hp hlen).mono fun x hx=>Yes.some ⟨rfl,hx⟩)))))
theorem s40 {l : BoxLoom} {ps : List BoxPick} (hl : LOk l) (hp : ∀ p ∈ ps, okP l.Boxes p = true) (hlen : ps.length ≤ 24) :
  f40 l ps=some (match thr l ps with | some n=>((thl l ps).map (colr l),n,mvt l ps,0,0) | none=>([],⟨[],[],[]⟩,0,((thl l ps).length:Int),9)):=by
 refine Yes.eq ?_
 unfold f40
 refine Yes.bind ((s70 hl hp hlen).mono fun y hy=>Yes.jn ?_)
 obtain ⟨y1,hy⟩:=hy
 cases ht:thr l ps with
 | none=>
  rw [ht] at hy
  have hy:y.2.2=(((thl l ps).length:Int),9):=hy
  refine qtake (by rw [hy]; rfl) (Yes.some ?_)
  rw [hy]
 | some n=>
  rw [ht] at hy
  obtain ⟨e1,e2,e3,e4⟩:=hy
  obtain ⟨k1,k2,k3⟩:=thr_ok hl hp ht
  have hfew:=hl.few
  have htl:=thl_lt hl hp
  have hll:=thl_len (l:=l) (ps:=ps)
  have hnd:∀ {i:Nat} (h:i < l.Shuttles.length) (h':i < n.Shuttles.length),n.Shuttles[i]={ l.Shuttles[i] with Side:=n.Shuttles[i].Side,Box:=n.Shuttles[i].Box }:=fun h h'=>thr_same hl hp ht h h'
  refine qskip (by rw [e4]; rfl) ?_
  show Yes (Option.bind _ _) _
  rw [y1,e2]
  refine Yes.bind (Yes.upto (thl l ps).length (by omega) (fun i t=>t=((thl l ps).take i).map (colr l)) (by simp) (fun i t k hi hI hk=>?_) (fun t k hI=>?_))
  ·have hti := htl _ (List.getElem_mem hi)
   refine qtake (by simp; omega) (Yes.bind (qbind ((((thl l ps)[i]:Nat):Int) + 1) (by rw [qidx (by simpa using hi)]; simp) (qbind (l.Shuttles[(thl l ps)[i]]) (by rw [w64_id (by omega) (by omega),show (((thl l ps)[i]:Nat):Int) + 1 - 1=(((thl l ps)[i]:Nat):Int) by omega]; exact qidx hti) (Yes.bind (Yes.apnd ?_ ?_ (Yes.some (hk _ ?_)))))))
   ·rw [hI]; simp; omega
   ·rw [hI]; simp; omega
   ·rw [take_succ hi,List.map_append,← hI,List.map_cons,List.map_nil,colr_at hti]
  ·refine qskip (by simp) (Yes.some ?_)
   rw [List.take_length] at hI
   subst hI
   refine qbind l.Boxes (show apnd 8 [] l.Boxes=_ by have:=hl.len.1; unfold apnd; rw [if_pos (by simp; omega)]; rfl) (qbind l.Shuttles (show apnd 40 [] l.Shuttles=_ by unfold apnd; rw [if_pos (by simp; omega)]; rfl) (Yes.bind ?_))
   -- the places
   let I:Nat→BoxLoom→Prop:=fun m q=>q.Boxes=l.Boxes∧q.At=[n.At.getD 0 0,n.At.getD 1 0]∧q.Shuttles.length=l.Shuttles.length∧∀ i (h1:i < q.Shuttles.length) (h2:i < n.Shuttles.length) (h3:i < l.Shuttles.length),(plc n.Shuttles[i] < m→q.Shuttles[i]=n.Shuttles[i])∧(¬ plc n.Shuttles[i] < m→q.Shuttles[i]=l.Shuttles[i])
   refine Yes.upto 2 (by omega) (fun s q=>I (4 * s) q) ⟨rfl,by rw [e1.at_],rfl,fun i h1 h2 h3=>⟨fun h=>absurd h (by omega),fun _=>rfl⟩⟩ (fun s q k hs hI hk=>?_) (fun q k hI=>?_)
   ·refine qtake (by simp; omega) (Yes.bind (qbind _ (vidx _ hs) (Yes.upto 4 (by omega) (fun b q => I (4 * s + b) q) hI (fun b q k hb hI hk2 => ?_) (fun q k2 hI => ?_))))
    ·obtain ⟨j1, j2, j3, j4⟩ := hI
     have hbx:=e1.bx s b hs hb
     refine qtake (by simp; omega) (Yes.bind (qbind _ (vidx _ hb) ?_))
     rcases inX_cases k1.dst s b with ⟨i,hi,e⟩ | ⟨hi,e⟩
     ·rw [e] at hbx
      obtain ⟨hin,hp1⟩:=isAt_plc k1 hi
      have hil:i < l.Shuttles.length:=by omega
      have hiq:i < q.Shuttles.length:=by omega
      simp only [Int.toNat_natCast] at hp1
      have hw:w64 ((y.2.1).last.boxes[s][b] - 1)=(i:Int):=by rw [hbx,w64_id (by omega) (by omega)]; omega
      refine qtake (decide_eq_true (by rw [hbx]; omega)) ?_
      rw [hw]
      refine qbind _ (qidx hiq) (qbind { q.Shuttles[i] with Side:=(s:Int) } ?_ (Yes.some (hk2 _ ⟨j1,j2,?_,fun a h1 h2 h3=>?_⟩)))
      ·rw [Int.toNat_natCast]
       show idx (q.Shuttles.set i _) (i:Int)=_
       rw [qidx (by rw [List.length_set]; exact hiq),List.getElem_set_self]
      ·simp only [List.length_set]; exact j3
      ·have hset : (q.Shuttles.set i { q.Shuttles[i] with Side := (s : Int) }).set i { { q.Shuttles[i] with Side := (s : Int) } with Box := (b : Int) } = mv q.Shuttles i s b := set_set hiq s b
       have haq:a < q.Shuttles.length:=by omega
       have hval:∀ (h1':a < (mv q.Shuttles i s b).length),(plc n.Shuttles[a] < 4 * s + (b + 1)→(mv q.Shuttles i s b)[a]=n.Shuttles[a])∧(¬ plc n.Shuttles[a] < 4 * s + (b + 1)→(mv q.Shuttles i s b)[a]=l.Shuttles[a]):=fun h1'=>by
        rw [mv_at h1' haq]
        by_cases hia:i=a
        ·subst hia
         rw [if_pos rfl,(j4 i hiq h2 h3).2 (by omega),hnd h3 h2,hi.2.1,hi.2.2]
         exact ⟨fun _=>rfl,fun h=>absurd hp1 (by rw [hnd h3 h2,hi.2.1,hi.2.2] at hp1 ⊢; omega)⟩
        ·rw [if_neg hia]
         have hne:plc n.Shuttles[a] ≠ 4 * s + b:=fun h=>hia (k1.dst.one hi (plc_isAt k1 hs hb h2 (by omega)))
         exact ⟨fun h=>(j4 a haq h2 h3).1 (by omega),fun h=>(j4 a haq h2 h3).2 (by omega)⟩
       have:=hval (by rw [mv_len]; exact haq)
       simpa only [Int.toNat_natCast,hset] using this
     ·rw [e] at hbx
      refine qskip (decide_eq_false (by rw [hbx]; omega)) (Yes.some (hk2 _ ⟨j1,j2,j3,fun a h1 h2 h3=>?_⟩))
      have hne:plc n.Shuttles[a] ≠ 4 * s + b:=fun h=>hi ⟨a,plc_isAt k1 hs hb h2 (by omega)⟩
      exact ⟨fun h=>(j4 a h1 h2 h3).1 (by omega),fun h=>(j4 a h1 h2 h3).2 (by omega)⟩
    ·exact qskip (by simp) (Yes.some (hk _ (by rw [show 4 * (s + 1)=4 * s + 4 by omega]; exact hI)))
   ·obtain ⟨j1, j2, j3, j4⟩ := hI
    refine qskip (by simp) (Yes.some (Yes.some ?_))
    have hq:q=n:=by
     rw [← loom_eta k1 k2]
     obtain ⟨B,A,S⟩:=q
     simp only at j1 j2 j3 j4
     subst j1; subst j2
     have:S=n.Shuttles:=List.ext_getElem (by omega) fun i h1 h2=>(j4 i h1 h2 (by omega)).1 (by have:=plc_lt k1 (List.getElem_mem h2); omega)
     rw [this]
    rw [hq,e3]
end Go.Proofs.Ytmpjooneiaiffaa
/- Plain laws: full, and standing. -/
set_option maxRecDepth 8000
namespace Go.Proofs.Ytmpjooneiaiffaa
open Go.RowKit
open Classical

def BxV (v:Vector (Vector Int 4) 2) (l:BoxLoom):Prop:=∀ (s b:Nat) (hs:s < 2) (hb:b < 4),v[s][b]=inX l.Shuttles s b + 1
theorem s45 {l:BoxLoom} (hl:LOk l):Yes (f45 l) (fun v=>BxV v l):=by
 have hf:=hl.few
 unfold f45
 refine Yes.bind (Yes.upto l.Shuttles.length (by omega) (fun n t=>∀ (s b:Nat) (hs:s < 2) (hb:b < 4),(∀ j,j < n→isAt l.Shuttles s b j→t[s][b]=(j:Int) + 1)∧((∀ j,j < n→¬ isAt l.Shuttles s b j)→t[s][b]=0)) ?_ (fun i t k hi hI hk=>?_) (fun t k hI=>?_))
 ·intro s b hs hb
  refine ⟨fun j h=>absurd h (Nat.not_lt_zero _),fun _=>?_⟩
  rcases (by omega:s=0 ∨ s=1) with rfl | rfl <;> rcases (by omega:b=0 ∨ b=1 ∨ b=2 ∨ b=3) with rfl | rfl | rfl | rfl <;> rfl
 ·have hok := okS_plc hl (List.getElem_mem hi)
  obtain ⟨S,hS⟩:∃ S:Nat,l.Shuttles[i].Side=S:=⟨l.Shuttles[i].Side.toNat,by omega⟩
  obtain ⟨B,hB⟩:∃ B:Nat,l.Shuttles[i].Box=B:=⟨l.Shuttles[i].Box.toNat,by omega⟩
  have hS2:S < 2:=by omega
  have hB4:B < 4:=by omega
  refine Yes.jn (qtake (by simp; omega) (Yes.jn (Yes.bind (qbind _ (qidx hi) (qbind _ (qidx hi) ?_)))))
  rw [hS,hB,w64_id (n:=(i:Int) + 1) (by omega) (by omega)]
  refine qbind _ (vidx t hS2) (qbind _ (vidx _ hB4) (Yes.some ?_))
  have hk:=hk (vmod t (S:Int) (fun b=>vset b (B:Int) ((i:Int) + 1)))
  rw [w64_id (n:=(i:Int) + 1) (by omega) (by omega)] at hk
  refine hk fun s b hs hb=>?_
  have hat:isAt l.Shuttles S B i:=⟨hi,hS,hB⟩
  obtain ⟨o1,o2⟩:=hI s b hs hb
  by_cases hsb:S=s∧B=b
  ·obtain ⟨rfl, rfl⟩ := hsb
   have hv:(vmod t (S:Int) (fun b=>vset b (B:Int) ((i:Int) + 1)))[S][B]=(i:Int) + 1:=by
    rw [vmod_at hs,if_pos rfl,vset_at hb,if_pos rfl]
   rw [hv]
   exact ⟨fun j _ hj=>by rw [hl.dst.one hj hat],fun h=>absurd hat (h i (by omega))⟩
  ·have hv:(vmod t (S:Int) (fun b=>vset b (B:Int) ((i:Int) + 1)))[s][b]=t[s][b]:=by
    by_cases hss:S=s
    ·subst hss
     rw [vmod_at hs,if_pos rfl,vset_at hb,if_neg (fun h=>hsb ⟨rfl,h⟩)]
    ·rw [vmod_at hs,if_neg hss]
   rw [hv]
   refine ⟨fun j hj hja=>?_,fun h=>o2 fun j hj=>h j (by omega)⟩
   rcases Nat.lt_succ_iff_lt_or_eq.1 hj with h | rfl
   ·exact o1 j h hja
   ·have := isAt_same hat hja
    exact absurd ⟨by omega,by omega⟩ hsb
 ·refine Yes.jn (qskip (by simp) (Yes.some (Yes.some fun s b hs hb => ?_)))
  obtain ⟨o1,o2⟩:=hI s b hs hb
  rcases inX_cases hl.dst s b with ⟨i,hi,e⟩ | ⟨hi,e⟩
  ·rw [e,o1 i hi.1 hi]
  ·rw [e,o2 fun j _ h=>hi ⟨j,h⟩]; rfl
structure Smb (n l : BoxLoom) : Prop where
 bx:n.Boxes=l.Boxes
 len:n.Shuttles.length=l.Shuttles.length
 sm:∀ i (h:i < n.Shuttles.length) (h':i < l.Shuttles.length),n.Shuttles[i].Colour=l.Shuttles[i].Colour∧n.Shuttles[i].Yarn=l.Shuttles[i].Yarn
end Go.Proofs.Ytmpjooneiaiffaa
/- Plain laws: the loom of bytes is all right. -/
set_option maxRecDepth 8000
namespace Go.Proofs.Ytmpjooneiaiffaa
open Go.RowKit
open Classical

theorem rem_nn {a b:Int} (ha:0 ≤ a) (hb:0 < b):rem64 a b=some (a % b):=by
 unfold rem64; rw [if_neg (by omega),Int.tmod_eq_emod_of_nonneg ha]
def pk (b0:Int) (s:BoxShuttle):Nat:=if s.Side=0 then s.Box.toNat else b0.toNat + s.Box.toNat
theorem dst_snoc {xs:List BoxShuttle} (h:Dst xs) {s:BoxShuttle} (hn:∀ x ∈ xs,¬ (x.Side=s.Side∧x.Box=s.Box)):Dst (xs ++ [s]):=by
 have el:∀ k (hk:k < (xs ++ [s]).length),(∃ h':k < xs.length,(xs ++ [s])[k]=xs[k]) ∨ (k=xs.length∧(xs ++ [s])[k]=s):=fun k hk=>by
  by_cases hk':k < xs.length
  ·exact .inl ⟨hk',List.getElem_append_left hk'⟩
  ·have hk2 : k = xs.length := by simp at hk; omega
   subst hk2
   exact .inr ⟨rfl,by simp⟩
 intro i j hi hj hji
 rcases el i hi with ⟨hi',ei⟩ | ⟨hi',ei⟩ <;> rcases el j hj with ⟨hj',ej⟩ | ⟨hj',ej⟩ <;> rw [ei,ej]
 ·exact h i j hi' hj' hji
 ·omega
 ·exact fun he=>hn _ (List.getElem_mem hj') ⟨he.1.symm,he.2.symm⟩
 ·omega
theorem s38y (x:Race):Yes (f38 x) (fun l=>LOk l∧∀ y ∈ l.Shuttles,y.Yarn.High ≤ 20):=by
 unfold f38
 obtain ⟨B,Sh,Pk⟩:=x
 have byte:∀ u:UInt8,(0:Int) ≤ (u.toNat:Int)∧(u.toNat:Int) ≤ 255:=fun u=>by have:=u.toNat_lt; omega
 refine qbind _ (vidx B (i:=0) (by omega)) (qbind _ (rem_nn (byte _).1 (by omega)) (qbind _ (vidx B (i:=1) (by omega)) (qbind _ (rem_nn (byte _).1 (by omega)) (qbind _ (vidx B (i:=2) (by omega)) ?_))))
 obtain ⟨b0,hb0,h0⟩:∃ b0:Int,w64 ((1:Int) + (B[0].toNat:Int) % (4:Int))=b0∧1 ≤ b0∧b0 ≤ 4:=⟨_,rfl,by rw [w64_id (by omega) (by omega)]; omega⟩
 obtain ⟨b1,hb1,h1⟩:∃ b1:Int,w64 ((1:Int) + (B[1].toNat:Int) % (4:Int))=b1∧1 ≤ b1∧b1 ≤ 4:=⟨_,rfl,by rw [w64_id (by omega) (by omega)]; omega⟩
 rw [hb0,hb1]
 refine qbind b0 rfl (qbind _ (rem_nn (byte _).1 (by omega)) (qbind _ (vidx B (i:=3) (by omega)) (qbind b1 rfl (qbind _ (rem_nn (byte _).1 (by omega)) (Yes.bind ?_)))))
 obtain ⟨a0,ha0,g0⟩:∃ a0:Int,(B[2].toNat:Int) % b0=a0∧0 ≤ a0∧a0 < b0:=⟨_,rfl,Int.emod_nonneg _ (by omega),Int.emod_lt_of_pos _ (by omega)⟩
 obtain ⟨a1,ha1,g1⟩:∃ a1:Int,(B[3].toNat:Int) % b1=a1∧0 ≤ a1∧a1 < b1:=⟨_,rfl,Int.emod_nonneg _ (by omega),Int.emod_lt_of_pos _ (by omega)⟩
 rw [ha0,ha1]
 refine Yes.lp (fun s => ∃ k : Nat, s.2.2 = (k : Int) ∧ k ≤ 6 ∧ s.1.Boxes = [b0, b1] ∧ s.1.At = [a0, a1] ∧ s.1.Shuttles.length ≤ k ∧ (k = 0 → ∀ j (h : j < 8), s.2.1[j] = false) ∧ (1 ≤ k → 0 < s.1.Shuttles.length) ∧ (∀ y ∈ s.1.Shuttles, (okS [b0, b1] y = true ∧ y.Yarn.High ≤ 20) ∧ ∃ h : pk b0 y < 8, s.2.1[pk b0 y] = true) ∧ Dst s.1.Shuttles)
  (fun s=>7 - s.2.2.toNat) ⟨0,rfl,by omega,rfl,rfl,by simp,fun _ j h=>?_,fun h=>absurd h (by omega),by simp,fun i j hi=>absurd hi (Nat.not_lt_zero _)⟩ (by simp) ?_
 ·rcases (by omega:j=0 ∨ j=1 ∨ j=2 ∨ j=3 ∨ j=4 ∨ j=5 ∨ j=6 ∨ j=7) with rfl | rfl | rfl | rfl | rfl | rfl | rfl | rfl <;> rfl
 rintro ⟨l,us,o⟩ kk ⟨k,rfl,k6,c1,c2,c3,c4,c5,c6,c7⟩ hk
 simp only at c1 c2 c3 c4 c5 c6 c7
 refine Yes.jn (Yes.bind (Yes.mono (Q':=fun b=>b=decide (k=0 ∨ (k < Sh.length∧k < 6))) ?_ fun b hb=>?_))
 ·refine Yes.cond (fun hc => Yes.some ?_) (fun hc => Yes.cond (fun hc2 => Yes.some ?_) (fun hc2 => Yes.some ?_))
  ·have : (k : Int) = 0 := by simpa using hc
   exact (decide_eq_true (.inl (by omega))).symm
  ·have : ¬ (k : Int) = 0 := by simpa using hc
   have h2:(k:Int) < (Sh.length:Int):=of_decide_eq_true hc2
   rw [decide_eq_decide]
   constructor
   ·intro h; exact .inr ⟨by omega,by omega⟩
   ·rintro (h | h) <;> omega
  ·have : ¬ (k : Int) = 0 := by simpa using hc
   have h2:¬ (k:Int) < (Sh.length:Int):=of_decide_eq_false hc2
   exact (decide_eq_false (by omega)).symm
 subst hb
 refine Yes.cond (fun hc=>?_) (fun hc=>Yes.some (Yes.some ?_))
 ·have hc := of_decide_eq_true hc
  have hk1:k + 1 ≤ 6:=by omega
  have next:∀ (l':BoxLoom) (us':Vector Bool 8),l'.Boxes=[b0,b1]→l'.At=[a0,a1]→l'.Shuttles.length ≤ k + 1→0 < l'.Shuttles.length→(∀ y ∈ l'.Shuttles,(okS [b0,b1] y=true∧y.Yarn.High ≤ 20)∧∃ h:pk b0 y < 8,us'[pk b0 y]=true)→Dst l'.Shuttles→Yes (kk (l',us',w64 ((k:Int) + 1))) fun r=>Yes (some r) fun l=>LOk l∧∀ y ∈ l.Shuttles,y.Yarn.High ≤ 20:=fun l' us' d1 d2 d3 d4 d5 d6=>by
   rw [w64_id (by omega) (by omega)]
   refine hk _ ⟨k + 1,by simp,hk1,d1,d2,d3,fun h=>absurd h (by omega),fun _=>d4,d5,d6⟩ ?_
   show 7 - ((k:Int) + 1).toNat < 7 - ((k:Int)).toNat
   omega
  refine Yes.jn (Yes.bind (Yes.bind (Yes.mono (Q':=fun _=>True) ?_ fun v _=>?_)))
  ·exact Yes.cond (fun hc=>Yes.bind (Yes.idx rfl (of_decide_eq_true hc |> Int.ofNat_lt.1) (Yes.some trivial))) (fun _=>Yes.some trivial)
  ·rw [c1]
   refine qbind b0 rfl (qbind b1 rfl (qbind _ (by rw [w64_id (by omega) (by omega)]; exact rem_nn (byte _).1 (by omega)) ?_))
   obtain ⟨u,hu,hu2⟩:∃ u:Nat,(v[0].toNat:Int) % (b0 + b1)=u∧(u:Int) < b0 + b1:=by
    have e1:=Int.emod_nonneg (v[0].toNat:Int) (show b0 + b1 ≠ 0 by omega)
    have e2:=Int.emod_lt_of_pos (v[0].toNat:Int) (show 0 < b0 + b1 by omega)
    exact ⟨((v[0].toNat:Int) % (b0 + b1)).toNat,by omega,by omega⟩
   rw [hu]
   have hu8:u < 8:=by omega
   refine Yes.jn (qbind _ (vidx us hu8) (Yes.cond (fun hc2=>Yes.some ?_) (fun hc2=>?_)))
   ·have hk0:1 ≤ k:=by
     rcases Nat.eq_zero_or_pos k with h | h
     ·rw [c4 h u hu8] at hc2; cases hc2
     ·exact h
    exact next l us c1 c2 (by omega) (c5 hk0) c6 c7
   ·refine qbind _ (vidx us hu8) (qbind _ (rem_nn (byte _).1 (by omega)) (qbind _ (rem_nn (byte _).1 (by omega)) (qbind _ (rem_nn (byte _).1 (by omega)) (qbind _ (rem_nn (byte _).1 (by omega)) (qbind _ rfl (Yes.bind (Yes.mono (Q' := fun s => (okS [b0, b1] s = true ∧ s.Yarn.High ≤ 20) ∧ pk b0 s = u) ?_ fun s hs => ?_)))))))
    ·have y1 := byte v[1]; have y2 := byte v[2]; have y3 := byte v[3]
     refine qbind b0 rfl (Yes.cond (fun hc3=>qbind b0 rfl (Yes.some ?_)) (fun hc3=>Yes.some ?_))
     ·have hge := of_decide_eq_true hc3
      rw [w64_id (n:=(u:Int) - b0) (by omega) (by omega),w64_id (n:=_ + _) (by omega) (by omega)]
      refine ⟨⟨?_,by show (v[2].toNat:Int) % 12 + (v[3].toNat:Int) % 5 ≤ 20; omega⟩,?_⟩
      ·unfold okS
       simp only [Bool.and_eq_true,btw_iff,decide_eq_true_eq]
       refine ⟨⟨⟨by omega,by omega⟩,?_⟩,by omega⟩
       show 0 ≤ (u:Int) - b0∧(u:Int) - b0 ≤ b1 - 1
       omega
      ·unfold pk; rw [if_neg (by simp)]; show b0.toNat + ((u:Int) - b0).toNat=u; omega
     ·have hlt := of_decide_eq_false hc3
      rw [w64_id (n:=_ + _) (by omega) (by omega)]
      refine ⟨⟨?_,by show (v[2].toNat:Int) % 12 + (v[3].toNat:Int) % 5 ≤ 20; omega⟩,?_⟩
      ·unfold okS
       simp only [Bool.and_eq_true,btw_iff,decide_eq_true_eq]
       refine ⟨⟨⟨by omega,by omega⟩,?_⟩,by omega⟩
       show 0 ≤ (u:Int)∧(u:Int) ≤ b0 - 1
       omega
      ·unfold pk; rw [if_pos rfl]; show ((u:Int)).toNat=u; omega
    ·obtain ⟨s1, s2⟩ := hs
     refine Yes.bind (Yes.apnd (by simp; omega) (by simp; omega) (Yes.some (next _ _ rfl c2 (by simp; omega) (by simp) ?_ ?_)))
     ·intro y hy
      have hup:∀ j (h:j < 8),us[j]=true→(vset us (u:Int) true)[j]=true:=fun j h ht=>by
       rw [vset_at h]
       split
       ·rfl
       ·exact ht
      rcases List.mem_append.1 hy with hy | hy
      ·obtain ⟨d1, d2, d3⟩ := c6 y hy
       exact ⟨d1,d2,hup _ d2 d3⟩
      ·rw [List.mem_singleton.1 hy]
       exact ⟨s1,by rw [s2]; exact hu8,by simp only [s2]; rw [vset_at hu8,if_pos rfl]⟩
     ·refine dst_snoc c7 fun y hy he => ?_
      obtain ⟨_,d2,d3⟩:=c6 y hy
      have:pk b0 y=u:=by rw [← s2]; unfold pk; rw [he.1,he.2]
      simp only [this] at d3
      rw [d3] at hc2; cases hc2
 ·have hc := of_decide_eq_false hc
  have hk0:1 ≤ k:=by omega
  refine ⟨⟨⟨by rw [c1]; rfl,by rw [c2]; rfl⟩,fun i hi=>?_,by omega,c5 hk0,fun y hy=>by rw [c1]; exact (c6 y hy).1.1,c7⟩,fun y hy=>(c6 y hy).1.2⟩
  unfold sideOk
  rw [c1,c2,Bool.and_eq_true,btw_iff,btw_iff]
  rcases (by omega:i=0 ∨ i=1) with rfl | rfl
  ·show (1 ≤ b0∧b0 ≤ 4)∧0 ≤ a0∧a0 ≤ b0 - 1; omega
  ·show (1 ≤ b1∧b1 ≤ 4)∧0 ≤ a1∧a1 ≤ b1 - 1; omega
theorem s38 (x:Race):Yes (f38 x) (fun l=>LOk l):=(s38y x).mono fun _ h=>h.1
end Go.Proofs.Ytmpjooneiaiffaa
