/- Plain laws: the loom of bytes is all right. -/
import Derived.Test.YtmpjooneiaiffaaLawN
set_option maxRecDepth 8000
namespace Go.Proofs.Ytmpjooneiaiffaa
open Go.RowKit
open Classical

theorem rem_nn {a b:Int} (ha:0 ≤ a) (hb:0 < b):rem64 a b=some (a % b):=by
 unfold rem64; rw [if_neg (by omega),Int.tmod_eq_emod_of_nonneg ha]
def pk (b0:Int) (s:BoxShuttle):Nat:=if s.Side=0 then s.Box.toNat else b0.toNat + s.Box.toNat
theorem dst_snoc {xs:List BoxShuttle} (h:Dst xs) {s:BoxShuttle} (hn:∀ x ∈ xs,¬ (x.Side=s.Side∧x.Box=s.Box)):Dst (xs ++ [s]):=by
 have el:∀ k (hk:k < (xs ++ [s]).length),(∃ h':k < xs.length,(xs ++ [s])[k]=xs[k]) ∨ (k=xs.length∧(xs ++ [s])[k]=s):=fun k hk=>by
  by_cases hk':k < xs.length
  ·exact .inl ⟨hk',List.getElem_append_left hk'⟩
  ·have hk2 : k = xs.length := by simp at hk; omega
   subst hk2
   exact .inr ⟨rfl,by simp⟩
 intro i j hi hj hji
 rcases el i hi with ⟨hi',ei⟩ | ⟨hi',ei⟩ <;> rcases el j hj with ⟨hj',ej⟩ | ⟨hj',ej⟩ <;> rw [ei,ej]
 ·exact h i j hi' hj' hji
 ·omega
 ·exact fun he=>hn _ (List.getElem_mem hj') ⟨he.1.symm,he.2.symm⟩
 ·omega
theorem s38y (x:Race):Yes (f38 x) (fun l=>LOk l∧∀ y ∈ l.Shuttles,y.Yarn.High ≤ 20):=by
 unfold f38
 obtain ⟨B,Sh,Pk⟩:=x
 have byte:∀ u:UInt8,(0:Int) ≤ (u.toNat:Int)∧(u.toNat:Int) ≤ 255:=fun u=>by have:=u.toNat_lt; omega
 refine qbind _ (vidx B (i:=0) (by omega)) (qbind _ (rem_nn (byte _).1 (by omega)) (qbind _ (vidx B (i:=1) (by omega)) (qbind _ (rem_nn (byte _).1 (by omega)) (qbind _ (vidx B (i:=2) (by omega)) ?_))))
 obtain ⟨b0,hb0,h0⟩:∃ b0:Int,w64 ((1:Int) + (B[0].toNat:Int) % (4:Int))=b0∧1 ≤ b0∧b0 ≤ 4:=⟨_,rfl,by rw [w64_id (by omega) (by omega)]; omega⟩
 obtain ⟨b1,hb1,h1⟩:∃ b1:Int,w64 ((1:Int) + (B[1].toNat:Int) % (4:Int))=b1∧1 ≤ b1∧b1 ≤ 4:=⟨_,rfl,by rw [w64_id (by omega) (by omega)]; omega⟩
 rw [hb0,hb1]
 refine qbind b0 rfl (qbind _ (rem_nn (byte _).1 (by omega)) (qbind _ (vidx B (i:=3) (by omega)) (qbind b1 rfl (qbind _ (rem_nn (byte _).1 (by omega)) (Yes.bind ?_)))))
 obtain ⟨a0,ha0,g0⟩:∃ a0:Int,(B[2].toNat:Int) % b0=a0∧0 ≤ a0∧a0 < b0:=⟨_,rfl,Int.emod_nonneg _ (by omega),Int.emod_lt_of_pos _ (by omega)⟩
 obtain ⟨a1,ha1,g1⟩:∃ a1:Int,(B[3].toNat:Int) % b1=a1∧0 ≤ a1∧a1 < b1:=⟨_,rfl,Int.emod_nonneg _ (by omega),Int.emod_lt_of_pos _ (by omega)⟩
 rw [ha0,ha1]
 refine Yes.lp (fun s => ∃ k : Nat, s.2.2 = (k : Int) ∧ k ≤ 6 ∧ s.1.Boxes = [b0, b1] ∧ s.1.At = [a0, a1] ∧ s.1.Shuttles.length ≤ k ∧ (k = 0 → ∀ j (h : j < 8), s.2.1[j] = false) ∧ (1 ≤ k → 0 < s.1.Shuttles.length) ∧ (∀ y ∈ s.1.Shuttles, (okS [b0, b1] y = true ∧ y.Yarn.High ≤ 20) ∧ ∃ h : pk b0 y < 8, s.2.1[pk b0 y] = true) ∧ Dst s.1.Shuttles)
  (fun s=>7 - s.2.2.toNat) ⟨0,rfl,by omega,rfl,rfl,by simp,fun _ j h=>?_,fun h=>absurd h (by omega),by simp,fun i j hi=>absurd hi (Nat.not_lt_zero _)⟩ (by simp) ?_
 ·rcases (by omega:j=0 ∨ j=1 ∨ j=2 ∨ j=3 ∨ j=4 ∨ j=5 ∨ j=6 ∨ j=7) with rfl | rfl | rfl | rfl | rfl | rfl | rfl | rfl <;> rfl
 rintro ⟨l,us,o⟩ kk ⟨k,rfl,k6,c1,c2,c3,c4,c5,c6,c7⟩ hk
 simp only at c1 c2 c3 c4 c5 c6 c7
 refine Yes.jn (Yes.bind (Yes.mono (Q':=fun b=>b=decide (k=0 ∨ (k < Sh.length∧k < 6))) ?_ fun b hb=>?_))
 ·refine Yes.cond (fun hc => Yes.some ?_) (fun hc => Yes.cond (fun hc2 => Yes.some ?_) (fun hc2 => Yes.some ?_))
  ·have : (k : Int) = 0 := by simpa using hc
   exact (decide_eq_true (.inl (by omega))).symm
  ·have : ¬ (k : Int) = 0 := by simpa using hc
   have h2:(k:Int) < (Sh.length:Int):=of_decide_eq_true hc2
   rw [decide_eq_decide]
   constructor
   ·intro h; exact .inr ⟨by omega,by omega⟩
   ·rintro (h | h) <;> omega
  ·have : ¬ (k : Int) = 0 := by simpa using hc
   have h2:¬ (k:Int) < (Sh.length:Int):=of_decide_eq_false hc2
   exact (decide_eq_false (by omega)).symm
 subst hb
 refine Yes.cond (fun hc=>?_) (fun hc=>Yes.some (Yes.some ?_))
 ·have hc := of_decide_eq_true hc
  have hk1:k + 1 ≤ 6:=by omega
  have next:∀ (l':BoxLoom) (us':Vector Bool 8),l'.Boxes=[b0,b1]→l'.At=[a0,a1]→l'.Shuttles.length ≤ k + 1→0 < l'.Shuttles.length→(∀ y ∈ l'.Shuttles,(okS [b0,b1] y=true∧y.Yarn.High ≤ 20)∧∃ h:pk b0 y < 8,us'[pk b0 y]=true)→Dst l'.Shuttles→Yes (kk (l',us',w64 ((k:Int) + 1))) fun r=>Yes (some r) fun l=>LOk l∧∀ y ∈ l.Shuttles,y.Yarn.High ≤ 20:=fun l' us' d1 d2 d3 d4 d5 d6=>by
   rw [w64_id (by omega) (by omega)]
   refine hk _ ⟨k + 1,by simp,hk1,d1,d2,d3,fun h=>absurd h (by omega),fun _=>d4,d5,d6⟩ ?_
   show 7 - ((k:Int) + 1).toNat < 7 - ((k:Int)).toNat
   omega
  refine Yes.jn (Yes.bind (Yes.bind (Yes.mono (Q':=fun _=>True) ?_ fun v _=>?_)))
  ·exact Yes.cond (fun hc=>Yes.bind (Yes.idx rfl (of_decide_eq_true hc |> Int.ofNat_lt.1) (Yes.some trivial))) (fun _=>Yes.some trivial)
  ·rw [c1]
   refine qbind b0 rfl (qbind b1 rfl (qbind _ (by rw [w64_id (by omega) (by omega)]; exact rem_nn (byte _).1 (by omega)) ?_))
   obtain ⟨u,hu,hu2⟩:∃ u:Nat,(v[0].toNat:Int) % (b0 + b1)=u∧(u:Int) < b0 + b1:=by
    have e1:=Int.emod_nonneg (v[0].toNat:Int) (show b0 + b1 ≠ 0 by omega)
    have e2:=Int.emod_lt_of_pos (v[0].toNat:Int) (show 0 < b0 + b1 by omega)
    exact ⟨((v[0].toNat:Int) % (b0 + b1)).toNat,by omega,by omega⟩
   rw [hu]
   have hu8:u < 8:=by omega
   refine Yes.jn (qbind _ (vidx us hu8) (Yes.cond (fun hc2=>Yes.some ?_) (fun hc2=>?_)))
   ·have hk0:1 ≤ k:=by
     rcases Nat.eq_zero_or_pos k with h | h
     ·rw [c4 h u hu8] at hc2; cases hc2
     ·exact h
    exact next l us c1 c2 (by omega) (c5 hk0) c6 c7
   ·refine qbind _ (vidx us hu8) (qbind _ (rem_nn (byte _).1 (by omega)) (qbind _ (rem_nn (byte _).1 (by omega)) (qbind _ (rem_nn (byte _).1 (by omega)) (qbind _ (rem_nn (byte _).1 (by omega)) (qbind _ rfl (Yes.bind (Yes.mono (Q' := fun s => (okS [b0, b1] s = true ∧ s.Yarn.High ≤ 20) ∧ pk b0 s = u) ?_ fun s hs => ?_)))))))
    ·have y1 := byte v[1]; have y2 := byte v[2]; have y3 := byte v[3]
     refine qbind b0 rfl (Yes.cond (fun hc3=>qbind b0 rfl (Yes.some ?_)) (fun hc3=>Yes.some ?_))
     ·have hge := of_decide_eq_true hc3
      rw [w64_id (n:=(u:Int) - b0) (by omega) (by omega),w64_id (n:=_ + _) (by omega) (by omega)]
      refine ⟨⟨?_,by show (v[2].toNat:Int) % 12 + (v[3].toNat:Int) % 5 ≤ 20; omega⟩,?_⟩
      ·unfold okS
       simp only [Bool.and_eq_true,btw_iff,decide_eq_true_eq]
       refine ⟨⟨⟨by omega,by omega⟩,?_⟩,by omega⟩
       show 0 ≤ (u:Int) - b0∧(u:Int) - b0 ≤ b1 - 1
       omega
      ·unfold pk; rw [if_neg (by simp)]; show b0.toNat + ((u:Int) - b0).toNat=u; omega
     ·have hlt := of_decide_eq_false hc3
      rw [w64_id (n:=_ + _) (by omega) (by omega)]
      refine ⟨⟨?_,by show (v[2].toNat:Int) % 12 + (v[3].toNat:Int) % 5 ≤ 20; omega⟩,?_⟩
      ·unfold okS
       simp only [Bool.and_eq_true,btw_iff,decide_eq_true_eq]
       refine ⟨⟨⟨by omega,by omega⟩,?_⟩,by omega⟩
       show 0 ≤ (u:Int)∧(u:Int) ≤ b0 - 1
       omega
      ·unfold pk; rw [if_pos rfl]; show ((u:Int)).toNat=u; omega
    ·obtain ⟨s1, s2⟩ := hs
     refine Yes.bind (Yes.apnd (by simp; omega) (by simp; omega) (Yes.some (next _ _ rfl c2 (by simp; omega) (by simp) ?_ ?_)))
     ·intro y hy
      have hup:∀ j (h:j < 8),us[j]=true→(vset us (u:Int) true)[j]=true:=fun j h ht=>by
       rw [vset_at h]
       split
       ·rfl
       ·exact ht
      rcases List.mem_append.1 hy with hy | hy
      ·obtain ⟨d1, d2, d3⟩ := c6 y hy
       exact ⟨d1,d2,hup _ d2 d3⟩
      ·rw [List.mem_singleton.1 hy]
       exact ⟨s1,by rw [s2]; exact hu8,by simp only [s2]; rw [vset_at hu8,if_pos rfl]⟩
     ·refine dst_snoc c7 fun y hy he => ?_
      obtain ⟨_,d2,d3⟩:=c6 y hy
      have:pk b0 y=u:=by rw [← s2]; unfold pk; rw [he.1,he.2]
      simp only [this] at d3
      rw [d3] at hc2; cases hc2
 ·have hc := of_decide_eq_false hc
  have hk0:1 ≤ k:=by omega
  refine ⟨⟨⟨by rw [c1]; rfl,by rw [c2]; rfl⟩,fun i hi=>?_,by omega,c5 hk0,fun y hy=>by rw [c1]; exact (c6 y hy).1.1,c7⟩,fun y hy=>(c6 y hy).1.2⟩
  unfold sideOk
  rw [c1,c2,Bool.and_eq_true,btw_iff,btw_iff]
  rcases (by omega:i=0 ∨ i=1) with rfl | rfl
  ·show (1 ≤ b0∧b0 ≤ 4)∧0 ≤ a0∧a0 ≤ b0 - 1; omega
  ·show (1 ≤ b1∧b1 ≤ 4)∧0 ≤ a1∧a1 ≤ b1 - 1; omega
theorem s38 (x:Race):Yes (f38 x) (fun l=>LOk l):=(s38y x).mono fun _ h=>h.1
end Go.Proofs.Ytmpjooneiaiffaa
/- Plain laws: the picks of bytes can be thrown. -/
set_option maxRecDepth 8000
namespace Go.Proofs.Ytmpjooneiaiffaa
open Go.RowKit
open Classical

theorem bx_step {v : Vector (Vector Int 4) 2} {m : BoxLoom} (hv : BxV v m) (hm : LOk m) {p : BoxPick} (hp : okP m.Boxes p = true) {L R : Nat} (hL : p.Left = L) (hR : p.Right = R) (hL4 : L < 4) (hR4 : R < 4)
  (hc:((v[0][L] == (0:Int)) == (v[1][R] == (0:Int)))=false):∃ n i q,oneL m p=some (n,i,q)∧BxV (vmod (vmod v ((0:Int)) (fun b=>vset b (L:Int) v[1][R])) ((1:Int)) (fun b=>vset b (R:Int) v[0][L])) n:=by
 have hr:Rel ⟨v,⟨m.At.getD 0 0,m.At.getD 1 0⟩⟩ m:=⟨hv,rfl⟩
 have hp':=okP_iff.1 hp
 have b0:=hm.box (i:=0) (by omega)
 have b1:=hm.box (i:=1) (by omega)
 have a0:=hm.at (i:=0) (by omega)
 have a1:=hm.at (i:=1) (by omega)
 obtain ⟨x,hx,hq⟩:=s97 hr hm hp
 have h2:Yes (f97 ⟨v,⟨m.At.getD 0 0,m.At.getD 1 0⟩⟩ p) (fun x=>x.1.boxes=vmod (vmod v ((0:Int)) (fun b=>vset b (L:Int) v[1][R])) ((1:Int)) (fun b=>vset b (R:Int) v[0][L])∧x.1.at_=p):=by
  unfold f97
  rw [hL,hR]
  refine qbind _ (vidx v (i:=0) (by omega)) (qbind _ (vidx _ hL4) (qbind _ (vidx v (i:=1) (by omega)) (qbind _ (vidx _ hR4) (Yes.jn (qskip hc ?_)))))
  exact qbind _ (s106 (by show 0 ≤ m.At.getD 0 0∧m.At.getD 0 0 ≤ 1000; omega) (by omega)) (qbind _ (s106 (by show 0 ≤ m.At.getD 1 0∧m.At.getD 1 0 ≤ 1000; omega) (by omega)) (qbind _ (vidx v (i:=0) (by omega)) (qbind _ (vidx _ hL4) (qbind _ (vidx _ (i:=1) (by omega)) (qbind _ (vidx _ hR4) (Yes.some ⟨rfl,rfl⟩))))))
 obtain ⟨y,hy,hb,hat⟩:=h2
 have hxy:x=y:=Option.some.inj (hx.symm.trans hy)
 subst hxy
 cases ho:oneL m p with
 | none=>
  exfalso
  rw [oneL_none hm.dst,hL,hR] at ho
  have e0:=hv 0 L (by omega) hL4
  have e1:=hv 1 R (by omega) hR4
  have h0:inX m.Shuttles (0:Int) (L:Int) + (1:Int)=v[0][L]:=e0.symm
  have h1:inX m.Shuttles (1:Int) (R:Int) + (1:Int)=v[1][R]:=e1.symm
  rw [h0,h1] at ho
  have:(v[0][L] == (0:Int))=(v[1][R] == (0:Int)):=by
   rw [Bool.eq_iff_iff,beq_iff_eq,beq_iff_eq]; exact ho
  rw [this] at hc
  simp at hc
 | some z=>
  obtain ⟨n,i,q⟩:=z
  rw [ho] at hq
  exact ⟨n,i,q,rfl,fun s b hs hb'=>by rw [← hq.1.bx s b hs hb']; simp only [hb]⟩
theorem quo_nn8 {a:Int} (ha:0 ≤ a) (ha2:a ≤ 255):quo64 a 8=some (a / 8):=quo_nn ha (by omega) (by omega)
end Go.Proofs.Ytmpjooneiaiffaa
/- Plain laws: picks thrown the other way round bring all back. -/
set_option maxRecDepth 8000
namespace Go.Proofs.Ytmpjooneiaiffaa
open Go.RowKit
open Classical

theorem thl_length {ps:List BoxPick}:∀ {l n:BoxLoom},thr l ps=some n→(thl l ps).length=ps.length:=by
 induction ps with
 | nil=>intro l n _; rw [thl]; rfl
 | cons p ps ih=>
  intro l n h
  rw [thr_cons] at h
  rw [thl]
  cases ho:oneL l p with
  | none=>rw [ho] at h; cases h
  | some x=>rw [ho] at h; exact congrArg Nat.succ (ih h)
end Go.Proofs.Ytmpjooneiaiffaa
/- BoxBack. -/
set_option maxRecDepth 8000
namespace Go.Proofs.Ytmpjooneiaiffaa
open Go.RowKit
open Classical

end Go.Proofs.Ytmpjooneiaiffaa
/- Plain laws: the race of colours. -/
set_option maxRecDepth 8000
namespace Go.Proofs.Ytmpjooneiaiffaa
open Go.RowKit
open Classical

noncomputable def cx (l:BoxLoom) (s b:Int):Int:=if inX l.Shuttles s b < 0 then 0 else colr l (inX l.Shuttles s b).toNat + 1
theorem cx_some {l:BoxLoom} (hd:Dst l.Shuttles) {s b:Int} {i:Nat} (h:isAt l.Shuttles s b i):cx l s b=colr l i + 1:=by
 unfold cx; rw [inX_some hd h,if_neg (by omega),Int.toNat_natCast]
theorem cx_none {l:BoxLoom} {s b:Int} (h:¬ ∃ i,isAt l.Shuttles s b i):cx l s b=0:=by
 unfold cx; rw [inX_none h,if_pos (by omega)]
theorem colr_rng {l:BoxLoom} (hl:LOk l) {i:Nat} (hi:i < l.Shuttles.length):0 ≤ colr l i∧colr l i ≤ 9:=by
 rw [colr_at hi]
 have:=hl.sh _ (List.getElem_mem hi)
 unfold okS at this
 simp only [Bool.and_eq_true,btw_iff] at this
 exact this.1.1.1
theorem colr_nn {l:BoxLoom} (hl:LOk l) (i:Nat):0 ≤ colr l i∧colr l i ≤ 9:=by
 by_cases hi:i < l.Shuttles.length
 ·exact colr_rng hl hi
 ·unfold colr; rw [List.getElem?_eq_none (by omega)]; simp
theorem cx_zero {l:BoxLoom} (hl:LOk l) (s b:Int):cx l s b=0 ↔ inX l.Shuttles s b + 1=0:=by
 unfold cx
 rcases inX_cases hl.dst s b with ⟨i,hi,e⟩ | ⟨_,e⟩
 ·rw [e,if_neg (by omega),Int.toNat_natCast]; have:=colr_nn hl i; omega
 ·rw [e]; simp
theorem colr_of_mv {l n:BoxLoom} {i:Nat} {s b:Int} (h:n.Shuttles=mv l.Shuttles i s b) (j:Nat):colr n j=colr l j:=by
 unfold colr
 rw [h]
 unfold mv
 rw [List.getElem?_modify]
 cases l.Shuttles[j]? with
 | none=>rfl
 | some x=>by_cases h:i=j <;> simp [h]
theorem oneL_colr {l:BoxLoom} (hd:Dst l.Shuttles) {p:BoxPick} {n:BoxLoom} {i:Nat} {m:Int} (h:oneL l p=some (n,i,m)) (j:Nat):colr n j=colr l j:=by
 obtain ⟨_,_,_,h | h⟩:=oneL_some hd h
 ·exact colr_of_mv h.1 j
 ·exact colr_of_mv h.1 j
structure RelC (r : BoxRace) (l : BoxLoom) : Prop where
 bx:∀ (s b:Nat) (hs:s < 2) (hb:b < 4),r.boxes[s][b]=cx l s b
 at_:r.at_=⟨l.At.getD 0 0,l.At.getD 1 0⟩
theorem RelC.one {r q:BoxRace} {l:BoxLoom} (h:RelC r l) (k:RelC q l):r=q:=by
 obtain ⟨rb,ra⟩:=r
 obtain ⟨qb,qa⟩:=q
 have h1:=h.bx; have h2:=h.at_; have k1:=k.bx; have k2:=k.at_
 simp only at h1 h2 k1 k2
 have:rb=qb:=Vector.ext fun s hs=>Vector.ext fun b hb=>(h1 s b hs hb).trans (k1 s b hs hb).symm
 rw [this,h2,k2]
theorem Goes.elseC {a a':BoxLoom} {i:Nat} {s c s' c':Int} (ha:Dst a.Shuttles) (ha':Dst a'.Shuttles) (hc:∀ j,colr a' j=colr a j) (h:Goes a.Shuttles a'.Shuttles i s c s' c') {t d:Int} (h1:¬ (t=s∧d=c)) (h2:¬ (t=s'∧d=c')):cx a' t d=cx a t d:=by
 unfold cx; rw [h.else ha ha' h1 h2]; simp only [hc]
theorem s97c {r : BoxRace} {l : BoxLoom} (hr : RelC r l) (hl : LOk l) {p : BoxPick} (hp : okP l.Boxes p = true) :
  Yes (f97 r p) (fun x=>match oneL l p with | some (n,i,m)=>RelC x.1 n∧x.2.1=colr l i + 1∧x.2.2=m | none=>x=(r,0,0)):=by
 have hd:=hl.dst
 have hf:=hl.few
 have hp':=okP_iff.1 hp
 have b0:=hl.box (i:=0) (by omega)
 have b1:=hl.box (i:=1) (by omega)
 have a0:=hl.at (i:=0) (by omega)
 have a1:=hl.at (i:=1) (by omega)
 obtain ⟨L,hL⟩:∃ L:Nat,p.Left=L:=⟨p.Left.toNat,by omega⟩
 obtain ⟨R,hR⟩:∃ R:Nat,p.Right=R:=⟨p.Right.toNat,by omega⟩
 have hL4:L < 4:=by omega
 have hR4:R < 4:=by omega
 have e0:=hr.bx 0 L (by omega) hL4
 have e1:=hr.bx 1 R (by omega) hR4
 unfold f97
 rw [hL,hR]
 refine qbind _ (vidx r.boxes (i:=0) (by omega)) (qbind _ (vidx _ hL4) (qbind _ (vidx r.boxes (i:=1) (by omega)) (qbind _ (vidx _ hR4) (Yes.jn (Yes.cond (fun hc=>Yes.some ?_) (fun hc=>?_))))))
 ·have hn:oneL l p=none:=by
   rw [oneL_none hd,hL,hR]
   have h0:cx l (0:Int) (L:Int)=r.boxes[0][L]:=e0.symm
   have h1:cx l (1:Int) (R:Int)=r.boxes[1][R]:=e1.symm
   rw [← cx_zero hl,← cx_zero hl,h0,h1]
   have:=beq_iff_eq.1 hc
   constructor
   ·intro h
    rw [h] at this
    exact beq_iff_eq.1 (this.symm.trans rfl)
   ·intro h
    rw [h] at this
    exact beq_iff_eq.1 (this.trans rfl)
  rw [hn]
 ·have hnn:oneL l p ≠ none:=fun hn=>by
   rw [oneL_none hd,hL,hR] at hn
   have h0:cx l (0:Int) (L:Int)=r.boxes[0][L]:=e0.symm
   have h1:cx l (1:Int) (R:Int)=r.boxes[1][R]:=e1.symm
   rw [← cx_zero hl,← cx_zero hl,h0,h1] at hn
   have:(r.boxes[0][L] == (0:Int))=(r.boxes[1][R] == (0:Int)):=by
    rw [Bool.eq_iff_iff,beq_iff_eq,beq_iff_eq]; exact hn
   rw [this] at hc
   simp at hc
  obtain ⟨⟨n,i,m⟩,hon⟩:=Option.ne_none_iff_exists'.1 hnn
  obtain ⟨hm,hnb,hna,hgo⟩:=oneL_some hd hon
  obtain ⟨hln,_,hlen,hil,_⟩:=oneL_ok hl hp hon
  have hcl:=oneL_colr hd hon
  have hcr:=colr_rng hl hil
  rw [hon]
  have hat:r.at_.Left=l.At.getD 0 0∧r.at_.Right=l.At.getD 1 0:=by rw [hr.at_]; exact ⟨rfl,rfl⟩
  refine qbind _ (s106 (by rw [hat.1]; omega) (by omega)) (qbind _ (s106 (by rw [hat.2]; omega) (by omega)) (qbind _ (vidx r.boxes (i:=0) (by omega)) (qbind _ (vidx _ hL4) (qbind _ (vidx _ (i:=1) (by omega)) (qbind _ (vidx _ hR4) (Yes.some ⟨⟨fun s b hs hb=>?_,?_⟩,?_,?_⟩))))))
  ·show (vmod (vmod r.boxes ((0 : Nat) : Int) (fun b => vset b (L : Int) r.boxes[1][R])) ((1 : Nat) : Int) (fun b => vset b (R : Int) r.boxes[0][L]))[s][b] = _
   have hold:=hr.bx s b hs hb
   rcases (by omega:s=0 ∨ s=1) with rfl | rfl
   ·rw [vmod_at (i := 1) (by omega), if_neg (by omega), vmod_at (i := 0) (by omega), if_pos rfl, vset_at hb]
    split
    ·rename_i hb'; subst hb'
     rcases hgo with ⟨_,g⟩ | ⟨_,g⟩
     ·rw [e1,show cx l ((1:Nat):Int) (R:Int)=0 from cx_none (hR ▸ g.free),show cx n ((0:Nat):Int) (L:Int)=0 from cx_none (hL ▸ g.left hd (by simp))]
     ·rw [e1,show cx l ((1:Nat):Int) (R:Int)=colr l i + 1 from cx_some hd (hR ▸ g.at0),show cx n ((0:Nat):Int) (L:Int)=colr l i + 1 from (cx_some hln.dst (hL ▸ g.there)).trans (by rw [hcl])]
    ·rename_i hb'
     rw [hold]
     rcases hgo with ⟨_,g⟩ | ⟨_,g⟩
     ·exact (g.elseC hd hln.dst hcl (by omega) (by omega)).symm
     ·exact (g.elseC hd hln.dst hcl (by omega) (by omega)).symm
   ·rw [vmod_at (i := 1) (by omega), if_pos rfl, vset_at hb]
    split
    ·rename_i hb'; subst hb'
     rcases hgo with ⟨_,g⟩ | ⟨_,g⟩
     ·rw [e0,show cx l ((0:Nat):Int) (L:Int)=colr l i + 1 from cx_some hd (hL ▸ g.at0),show cx n ((1:Nat):Int) (R:Int)=colr l i + 1 from (cx_some hln.dst (hR ▸ g.there)).trans (by rw [hcl])]
     ·rw [e0,show cx l ((0:Nat):Int) (L:Int)=0 from cx_none (hL ▸ g.free),show cx n ((1:Nat):Int) (R:Int)=0 from cx_none (hR ▸ g.left hd (by simp))]
    ·rename_i hb'
     rw [vmod_at (i:=0) (by omega),if_neg (by omega),hold]
     rcases hgo with ⟨_,g⟩ | ⟨_,g⟩
     ·exact (g.elseC hd hln.dst hcl (by omega) (by omega)).symm
     ·exact (g.elseC hd hln.dst hcl (by omega) (by omega)).symm
  ·show p = _
   rw [hna]; rfl
  ·show w64 (r.boxes[0][L] + r.boxes[1][R]) = _
   rw [e0,e1]
   rcases hgo with ⟨_,g⟩ | ⟨_,g⟩
   ·rw [show cx l ((1:Nat):Int) (R:Int)=0 from cx_none (hR ▸ g.free),show cx l ((0:Nat):Int) (L:Int)=colr l i + 1 from cx_some hd (hL ▸ g.at0),w64_id (by omega) (by omega)]; omega
   ·rw [show cx l ((0:Nat):Int) (L:Int)=0 from cx_none (hL ▸ g.free),show cx l ((1:Nat):Int) (R:Int)=colr l i + 1 from cx_some hd (hR ▸ g.at0),w64_id (by omega) (by omega)]; omega
  ·show w64 (_ + _) = m
   rw [hm,hat.1,hat.2,w64_id (by omega) (by omega)]; unfold mvs; rw [hL,hR]; omega
theorem s54c {l:BoxLoom} (hl:LOk l):Yes (f54 ⟨l⟩ (fun a0 a1=>f55 a0 a1)) (fun r=>RelC r l):=by
 have hf:=hl.few
 unfold f54
 refine Yes.bind (Yes.upto l.Shuttles.length (by omega) (fun n t=>∀ (s b:Nat) (hs:s < 2) (hb:b < 4),(∀ j,j < n→isAt l.Shuttles s b j→t.boxes[s][b]=colr l j + 1)∧((∀ j,j < n→¬ isAt l.Shuttles s b j)→t.boxes[s][b]=0)) ?_ (fun i t k hi hI hk=>?_) (fun t k hI=>?_))
 ·intro s b hs hb
  refine ⟨fun j h=>absurd h (Nat.not_lt_zero _),fun _=>?_⟩
  rcases (by omega:s=0 ∨ s=1) with rfl | rfl <;> rcases (by omega:b=0 ∨ b=1 ∨ b=2 ∨ b=3) with rfl | rfl | rfl | rfl <;> rfl
 ·have hok := hl.sh _ (List.getElem_mem hi)
  unfold okS at hok
  simp only [Bool.and_eq_true,btw_iff] at hok
  obtain ⟨⟨⟨_,hs⟩,hb⟩,_⟩:=hok
  obtain ⟨S,hS⟩:∃ S:Nat,l.Shuttles[i].Side=S:=⟨l.Shuttles[i].Side.toNat,by omega⟩
  obtain ⟨B,hB⟩:∃ B:Nat,l.Shuttles[i].Box=B:=⟨l.Shuttles[i].Box.toNat,by omega⟩
  have hS2:S < 2:=by omega
  have hbx:=hl.box hS2
  rw [hS,Int.toNat_natCast] at hb
  have hB4:B < 4:=by omega
  refine qtake (by simp; omega) (Yes.bind (qbind _ (qidx hi) (qbind (colr l i + 1) (by show some (w64 (l.Shuttles[i].Colour + 1))=_; rw [← colr_at hi]; have:=colr_rng hl hi; rw [w64_id (by omega) (by omega)]) ?_)))
  rw [hS,hB]
  refine qbind _ (vidx t.boxes hS2) (qbind _ (vidx _ hB4) (Yes.some (hk _ fun s b hs hb=>?_)))
  show (∀ j,j < i + 1→isAt l.Shuttles s b j→(vmod t.boxes (S:Int) (fun b=>vset b (B:Int) (colr l i + 1)))[s][b]=colr l j + 1)∧((∀ j,j < i + 1→¬ isAt l.Shuttles s b j)→(vmod t.boxes (S:Int) (fun b=>vset b (B:Int) (colr l i + 1)))[s][b]=0)
  have hat:isAt l.Shuttles S B i:=⟨hi,hS,hB⟩
  obtain ⟨o1,o2⟩:=hI s b hs hb
  by_cases hsb:S=s∧B=b
  ·obtain ⟨rfl, rfl⟩ := hsb
   have hv:(vmod t.boxes (S:Int) (fun b=>vset b (B:Int) (colr l i + 1)))[S][B]=colr l i + 1:=by
    rw [vmod_at hs,if_pos rfl,vset_at hb,if_pos rfl]
   rw [hv]
   exact ⟨fun j _ hj=>by rw [hl.dst.one hj hat],fun h=>absurd hat (h i (by omega))⟩
  ·have hv:(vmod t.boxes (S:Int) (fun b=>vset b (B:Int) (colr l i + 1)))[s][b]=t.boxes[s][b]:=by
    by_cases hss:S=s
    ·subst hss
     rw [vmod_at hs,if_pos rfl,vset_at hb,if_neg (fun h=>hsb ⟨rfl,h⟩)]
    ·rw [vmod_at hs,if_neg hss]
   rw [hv]
   refine ⟨fun j hj hja=>?_,fun h=>o2 fun j hj=>h j (by omega)⟩
   rcases Nat.lt_succ_iff_lt_or_eq.1 hj with h | rfl
   ·exact o1 j h hja
   ·have := isAt_same hat hja
    exact absurd ⟨by omega,by omega⟩ hsb
 ·refine qskip (by simp) (Yes.some (qbind _ (at_at hl.len (i := 0) (by omega)) (qbind _ (at_at hl.len (i := 1) (by omega)) (Yes.some ⟨fun s b hs hb => ?_, rfl⟩))))
  obtain ⟨o1,o2⟩:=hI s b hs hb
  show t.boxes[s][b]=_
  rcases inX_cases hl.dst s b with ⟨i,hi,e⟩ | ⟨hi,e⟩
  ·rw [o1 i hi.1 hi,cx_some hl.dst hi]
  ·rw [o2 fun j _ h=>hi ⟨j,h⟩,cx_none hi]
end Go.Proofs.Ytmpjooneiaiffaa
