/- Plain laws: the race of colours. -/
import Derived.Test.YtmpjooneiaiffaaLawR
set_option maxRecDepth 8000
namespace Go.Proofs.Ytmpjooneiaiffaa
open Go.RowKit
open Classical

noncomputable def cx (l:BoxLoom) (s b:Int):Int:=if inX l.Shuttles s b < 0 then 0 else Qy l (inX l.Shuttles s b).toNat + 1
theorem Xq {l:BoxLoom} (hd:Dst l.Shuttles) {s b:Int} {i:Nat} (h:Hs l.Shuttles s b i):cx l s b=Qy l i + 1:=by
 unfold cx; rw [Jg hd h,if_neg (by omega),Int.toNat_natCast]
theorem Xk {l:BoxLoom} {s b:Int} (h:¬ ∃ i,Hs l.Shuttles s b i):cx l s b=0:=by
 unfold cx; rw [Jk h,if_pos (by omega)]
theorem Lr {l:BoxLoom} (hl:LOk l) {i:Nat} (hi:i < l.Shuttles.length):0 ≤ Qy l i∧Qy l i ≤ 9:=by
 rw [Bd hi]
 have:=hl.sh _ (List.getElem_mem hi)
 unfold okS at this
 simp only [Bool.and_eq_true,Wl] at this
 exact this.1.1.1
theorem Bg {l:BoxLoom} (hl:LOk l) (i:Nat):0 ≤ Qy l i∧Qy l i ≤ 9:=by
 by_cases hi:i < l.Shuttles.length
 ·exact Lr hl hi
 ·unfold Qy; rw [List.getElem?_eq_none (by omega)]; simp
theorem Fc {l:BoxLoom} (hl:LOk l) (s b:Int):cx l s b=0 ↔ inX l.Shuttles s b + 1=0:=by
 unfold cx
 rcases Jl hl.dst s b with ⟨i,hi,e⟩ | ⟨_,e⟩
 ·rw [e,if_neg (by omega),Int.toNat_natCast]; have:=Bg hl i; omega
 ·rw [e]; simp
theorem Ll {l n:BoxLoom} {i:Nat} {s b:Int} (h:n.Shuttles=mv l.Shuttles i s b) (j:Nat):Qy n j=Qy l j:=by
 unfold Qy
 rw [h]
 unfold mv
 rw [List.getElem?_modify]
 cases l.Shuttles[j]? with
 | none=>rfl
 | some x=>by_cases h:i=j <;> simp [h]
theorem Aw {l:BoxLoom} (hd:Dst l.Shuttles) {p:Gf} {n:BoxLoom} {i:Nat} {m:Int} (h:Ka l p=some (n,i,m)) (j:Nat):Qy n j=Qy l j:=by
 obtain ⟨_,_,_,h | h⟩:=Uz hd h
 ·exact Ll h.1 j
 ·exact Ll h.1 j
structure Ep (r : Gu) (l : BoxLoom) : Prop where
 bx:∀ (s b:Nat) (hs:s < 2) (hb:b < 4),r.boxes[s][b]=cx l s b
 at_:r.at_=⟨l.At.getD 0 0,l.At.getD 1 0⟩
theorem Ep.one {r q:Gu} {l:BoxLoom} (h:Ep r l) (k:Ep q l):r=q:=by
 obtain ⟨rb,ra⟩:=r
 obtain ⟨qb,qa⟩:=q
 have h1:=h.bx; have h2:=h.at_; have k1:=k.bx; have k2:=k.at_
 simp only at h1 h2 k1 k2
 have:rb=qb:=Vector.ext fun s hs=>Vector.ext fun b hb=>(h1 s b hs hb).trans (k1 s b hs hb).symm
 rw [this,h2,k2]
theorem Rb.elseC {a a':BoxLoom} {i:Nat} {s c s' c':Int} (ha:Dst a.Shuttles) (ha':Dst a'.Shuttles) (hc:∀ j,Qy a' j=Qy a j) (h:Rb a.Shuttles a'.Shuttles i s c s' c') {t d:Int} (h1:¬ (t=s∧d=c)) (h2:¬ (t=s'∧d=c')):cx a' t d=cx a t d:=by
 unfold cx; rw [h.else ha ha' h1 h2]; simp only [hc]
theorem s97c {r : Gu} {l : BoxLoom} (hr : Ep r l) (hl : LOk l) {p : Gf} (hp : okP l.Boxes p = true) :
  Yes (f97 r p) (fun x=>match Ka l p with | some (n,i,m)=>Ep x.1 n∧x.2.1=Qy l i + 1∧x.2.2=m | none=>x=(r,0,0)):=by
 have hd:=hl.dst
 have hf:=hl.few
 have hp':=Uu.1 hp
 have b0:=hl.box (i:=0) (by omega)
 have b1:=hl.box (i:=1) (by omega)
 have a0:=hl.at (i:=0) (by omega)
 have a1:=hl.at (i:=1) (by omega)
 obtain ⟨L,hL⟩:∃ L:Nat,p.Left=L:=⟨p.Left.toNat,by omega⟩
 obtain ⟨R,hR⟩:∃ R:Nat,p.Right=R:=⟨p.Right.toNat,by omega⟩
 have hL4:L < 4:=by omega
 have hR4:R < 4:=by omega
 have e0:=hr.bx 0 L (by omega) hL4
 have e1:=hr.bx 1 R (by omega) hR4
 unfold f97
 rw [hL,hR]
 refine Gj _ (Hu r.boxes (i:=0) (by omega)) (Gj _ (Hu _ hL4) (Gj _ (Hu r.boxes (i:=1) (by omega)) (Gj _ (Hu _ hR4) (Yes.jn (Yes.cond (fun hc=>Yes.some ?_) (fun hc=>?_))))))
 ·have hn:Ka l p=none:=by
   rw [Xd hd,hL,hR]
   have h0:cx l (0:Int) (L:Int)=r.boxes[0][L]:=e0.symm
   have h1:cx l (1:Int) (R:Int)=r.boxes[1][R]:=e1.symm
   rw [← Fc hl,← Fc hl,h0,h1]
   have:=beq_iff_eq.1 hc
   constructor
   ·intro h
    rw [h] at this
    exact beq_iff_eq.1 (this.symm.trans rfl)
   ·intro h
    rw [h] at this
    exact beq_iff_eq.1 (this.trans rfl)
  rw [hn]
 ·have hnn:Ka l p ≠ none:=fun hn=>by
   rw [Xd hd,hL,hR] at hn
   have h0:cx l (0:Int) (L:Int)=r.boxes[0][L]:=e0.symm
   have h1:cx l (1:Int) (R:Int)=r.boxes[1][R]:=e1.symm
   rw [← Fc hl,← Fc hl,h0,h1] at hn
   have:(r.boxes[0][L] == (0:Int))=(r.boxes[1][R] == (0:Int)):=by
    rw [Bool.eq_iff_iff,beq_iff_eq,beq_iff_eq]; exact hn
   rw [this] at hc
   simp at hc
  obtain ⟨⟨n,i,m⟩,hon⟩:=Option.ne_none_iff_exists'.1 hnn
  obtain ⟨hm,hnb,hna,hgo⟩:=Uz hd hon
  obtain ⟨hln,_,hlen,hil,_⟩:=Ja hl hp hon
  have hcl:=Aw hd hon
  have hcr:=Lr hl hil
  rw [hon]
  have hat:r.at_.Left=l.At.getD 0 0∧r.at_.Right=l.At.getD 1 0:=by rw [hr.at_]; exact ⟨rfl,rfl⟩
  refine Gj _ (s106 (by rw [hat.1]; omega) (by omega)) (Gj _ (s106 (by rw [hat.2]; omega) (by omega)) (Gj _ (Hu r.boxes (i:=0) (by omega)) (Gj _ (Hu _ hL4) (Gj _ (Hu _ (i:=1) (by omega)) (Gj _ (Hu _ hR4) (Yes.some ⟨⟨fun s b hs hb=>?_,?_⟩,?_,?_⟩))))))
  ·show (Jq (Jq r.boxes ((0 : Nat) : Int) (fun b => Ku b (L : Int) r.boxes[1][R])) ((1 : Nat) : Int) (fun b => Ku b (R : Int) r.boxes[0][L]))[s][b] = _
   have hold:=hr.bx s b hs hb
   rcases (by omega:s=0 ∨ s=1) with rfl | rfl
   ·rw [Js (i := 1) (by omega), if_neg (by omega), Js (i := 0) (by omega), if_pos rfl, Ua hb]
    split
    ·rename_i hb'; subst hb'
     rcases hgo with ⟨_,g⟩ | ⟨_,g⟩
     ·rw [e1,show cx l ((1:Nat):Int) (R:Int)=0 from Xk (hR ▸ g.free),show cx n ((0:Nat):Int) (L:Int)=0 from Xk (hL ▸ g.left hd (by simp))]
     ·rw [e1,show cx l ((1:Nat):Int) (R:Int)=Qy l i + 1 from Xq hd (hR ▸ g.at0),show cx n ((0:Nat):Int) (L:Int)=Qy l i + 1 from (Xq hln.dst (hL ▸ g.there)).trans (by rw [hcl])]
    ·rename_i hb'
     rw [hold]
     rcases hgo with ⟨_,g⟩ | ⟨_,g⟩
     ·exact (g.elseC hd hln.dst hcl (by omega) (by omega)).symm
     ·exact (g.elseC hd hln.dst hcl (by omega) (by omega)).symm
   ·rw [Js (i := 1) (by omega), if_pos rfl, Ua hb]
    split
    ·rename_i hb'; subst hb'
     rcases hgo with ⟨_,g⟩ | ⟨_,g⟩
     ·rw [e0,show cx l ((0:Nat):Int) (L:Int)=Qy l i + 1 from Xq hd (hL ▸ g.at0),show cx n ((1:Nat):Int) (R:Int)=Qy l i + 1 from (Xq hln.dst (hR ▸ g.there)).trans (by rw [hcl])]
     ·rw [e0,show cx l ((0:Nat):Int) (L:Int)=0 from Xk (hL ▸ g.free),show cx n ((1:Nat):Int) (R:Int)=0 from Xk (hR ▸ g.left hd (by simp))]
    ·rename_i hb'
     rw [Js (i:=0) (by omega),if_neg (by omega),hold]
     rcases hgo with ⟨_,g⟩ | ⟨_,g⟩
     ·exact (g.elseC hd hln.dst hcl (by omega) (by omega)).symm
     ·exact (g.elseC hd hln.dst hcl (by omega) (by omega)).symm
  ·show p = _
   rw [hna]; rfl
  ·show w64 (r.boxes[0][L] + r.boxes[1][R]) = _
   rw [e0,e1]
   rcases hgo with ⟨_,g⟩ | ⟨_,g⟩
   ·rw [show cx l ((1:Nat):Int) (R:Int)=0 from Xk (hR ▸ g.free),show cx l ((0:Nat):Int) (L:Int)=Qy l i + 1 from Xq hd (hL ▸ g.at0),Tl (by omega) (by omega)]; omega
   ·rw [show cx l ((0:Nat):Int) (L:Int)=0 from Xk (hL ▸ g.free),show cx l ((1:Nat):Int) (R:Int)=Qy l i + 1 from Xq hd (hR ▸ g.at0),Tl (by omega) (by omega)]; omega
  ·show w64 (_ + _) = m
   rw [hm,hat.1,hat.2,Tl (by omega) (by omega)]; unfold mvs; rw [hL,hR]; omega
theorem s54c {l:BoxLoom} (hl:LOk l):Yes (f54 ⟨l⟩ (fun a0 a1=>f55 a0 a1)) (fun r=>Ep r l):=by
 have hf:=hl.few
 unfold f54
 refine Yes.bind (Yes.upto l.Shuttles.length (by omega) (fun n t=>∀ (s b:Nat) (hs:s < 2) (hb:b < 4),(∀ j,j < n→Hs l.Shuttles s b j→t.boxes[s][b]=Qy l j + 1)∧((∀ j,j < n→¬ Hs l.Shuttles s b j)→t.boxes[s][b]=0)) ?_ (fun i t k hi hI hk=>?_) (fun t k hI=>?_))
 ·intro s b hs hb
  refine ⟨fun j h=>absurd h (Nat.not_lt_zero _),fun _=>?_⟩
  rcases (by omega:s=0 ∨ s=1) with rfl | rfl <;> rcases (by omega:b=0 ∨ b=1 ∨ b=2 ∨ b=3) with rfl | rfl | rfl | rfl <;> rfl
 ·have hok := hl.sh _ (List.getElem_mem hi)
  unfold okS at hok
  simp only [Bool.and_eq_true,Wl] at hok
  obtain ⟨⟨⟨_,hs⟩,hb⟩,_⟩:=hok
  obtain ⟨S,hS⟩:∃ S:Nat,l.Shuttles[i].Side=S:=⟨l.Shuttles[i].Side.toNat,by omega⟩
  obtain ⟨B,hB⟩:∃ B:Nat,l.Shuttles[i].Box=B:=⟨l.Shuttles[i].Box.toNat,by omega⟩
  have hS2:S < 2:=by omega
  have hbx:=hl.box hS2
  rw [hS,Int.toNat_natCast] at hb
  have hB4:B < 4:=by omega
  refine Qr (by simp; omega) (Yes.bind (Gj _ (Wu hi) (Gj (Qy l i + 1) (by show some (w64 (l.Shuttles[i].Colour + 1))=_; rw [← Bd hi]; have:=Lr hl hi; rw [Tl (by omega) (by omega)]) ?_)))
  rw [hS,hB]
  refine Gj _ (Hu t.boxes hS2) (Gj _ (Hu _ hB4) (Yes.some (hk _ fun s b hs hb=>?_)))
  show (∀ j,j < i + 1→Hs l.Shuttles s b j→(Jq t.boxes (S:Int) (fun b=>Ku b (B:Int) (Qy l i + 1)))[s][b]=Qy l j + 1)∧((∀ j,j < i + 1→¬ Hs l.Shuttles s b j)→(Jq t.boxes (S:Int) (fun b=>Ku b (B:Int) (Qy l i + 1)))[s][b]=0)
  have hat:Hs l.Shuttles S B i:=⟨hi,hS,hB⟩
  obtain ⟨o1,o2⟩:=hI s b hs hb
  by_cases hsb:S=s∧B=b
  ·obtain ⟨rfl, rfl⟩ := hsb
   have hv:(Jq t.boxes (S:Int) (fun b=>Ku b (B:Int) (Qy l i + 1)))[S][B]=Qy l i + 1:=by
    rw [Js hs,if_pos rfl,Ua hb,if_pos rfl]
   rw [hv]
   exact ⟨fun j _ hj=>by rw [hl.dst.one hj hat],fun h=>absurd hat (h i (by omega))⟩
  ·have hv:(Jq t.boxes (S:Int) (fun b=>Ku b (B:Int) (Qy l i + 1)))[s][b]=t.boxes[s][b]:=by
    by_cases hss:S=s
    ·subst hss
     rw [Js hs,if_pos rfl,Ua hb,if_neg (fun h=>hsb ⟨rfl,h⟩)]
    ·rw [Js hs,if_neg hss]
   rw [hv]
   refine ⟨fun j hj hja=>?_,fun h=>o2 fun j hj=>h j (by omega)⟩
   rcases Nat.lt_succ_iff_lt_or_eq.1 hj with h | rfl
   ·exact o1 j h hja
   ·have := Ca hat hja
    exact absurd ⟨by omega,by omega⟩ hsb
 ·refine Tw (by simp) (Yes.some (Gj _ (Xu hl.len (i := 0) (by omega)) (Gj _ (Xu hl.len (i := 1) (by omega)) (Yes.some ⟨fun s b hs hb => ?_, rfl⟩))))
  obtain ⟨o1,o2⟩:=hI s b hs hb
  show t.boxes[s][b]=_
  rcases Jl hl.dst s b with ⟨i,hi,e⟩ | ⟨hi,e⟩
  ·rw [o1 i hi.1 hi,Xq hl.dst hi]
  ·rw [o2 fun j _ h=>hi ⟨j,h⟩,Xk hi]
end Go.Proofs.Ytmpjooneiaiffaa
