/- Plain laws: picks thrown one by one, by the reference and by the race. -/
import Derived.Test.YtmpjooneiaiffaaLawF
set_option maxRecDepth 8000
namespace Go.Proofs.Ytmpjooneiaiffaa
open Go.RowKit
open Classical

noncomputable def thr : BoxLoom → List Gf → Option BoxLoom
 | l,[]=>some l
 | l, p :: ps => match Ka l p with
  | some (n,_,_)=>thr n ps
  | none=>none
theorem Xe (l:BoxLoom) (p:Gf) (ps:List Gf):thr l (p :: ps)=(Ka l p).bind fun x=>thr x.1 ps:=by
 rw [thr]
 cases Ka l p with
 | none=>rfl
 | some x=>rfl
theorem Pb : ∀ (a b : List Gf) (l : BoxLoom), thr l (a ++ b) = (thr l a).bind fun n => thr n b
 | [],_,_=>rfl
 | p :: a,b,l=>by
  rw [List.cons_append,Xe,Xe]
  cases Ka l p with
  | none=>rfl
  | some x=>exact Pb a b x.1
theorem Kl {α:Type} {xs:List α} {i:Nat} (h:i < xs.length):xs.take (i + 1)=xs.take i ++ [xs[i]]:=by
 rw [List.take_add_one,List.getElem?_eq_getElem h]; rfl
theorem thr_one (l:BoxLoom) (p:Gf):thr l [p]=(Ka l p).map (·.1):=by
 unfold thr
 cases Ka l p with
 | none=>rfl
 | some x=>rfl
theorem thr_ok {ps:List Gf}:∀ {l n:BoxLoom},LOk l→(∀ p ∈ ps,okP l.Boxes p=true)→thr l ps=some n→LOk n∧n.Boxes=l.Boxes∧n.Shuttles.length=l.Shuttles.length:=by
 induction ps with
 | nil=>intro l n hl _ h; cases h; exact ⟨hl,rfl,rfl⟩
 | cons p ps ih=>
  intro l n hl hp h
  unfold thr at h
  cases ho:Ka l p with
  | none=>rw [ho] at h; cases h
  | some x=>
   obtain ⟨a,i,m⟩:=x
   rw [ho] at h
   obtain ⟨h1,h2,h3,_⟩:=Ja hl (hp p (by simp)) ho
   obtain ⟨k1,k2,k3⟩:=ih h1 (fun q hq=>by rw [h2]; exact hp q (by simp [hq])) h
   exact ⟨k1,k2.trans h2,k3.trans h3⟩
end Go.Proofs.Ytmpjooneiaiffaa
/- Plain laws: Lf, and BoxRounds. -/
set_option maxRecDepth 8000
namespace Go.Proofs.Ytmpjooneiaiffaa
open Go.RowKit
open Classical

section
variable {l:BoxLoom} {ps:List Gf} (hl:LOk l) (hp:∀ p ∈ ps,okP l.Boxes p=true)
include hl hp
end
end Go.Proofs.Ytmpjooneiaiffaa
/- Plain laws: a permutation of eight places comes back after at most 15 Lf. -/
set_option maxRecDepth 8000
namespace Go.Proofs.Ytmpjooneiaiffaa
open Go.RowKit
open Classical

section
variable {π:Nat→Nat}
variable (hlt:∀ x,x < 8→π x < 8) (hinj:∀ x y,x < 8→y < 8→π x=π y→x=y)
include hlt
end
end Go.Proofs.Ytmpjooneiaiffaa
/- Plain laws: each round moves the shuttles by one and the same permutation of the boxes; so it ends after at most 15. -/
set_option maxRecDepth 8000
namespace Go.Proofs.Ytmpjooneiaiffaa
open Go.RowKit
open Classical

theorem okS_plc {l:BoxLoom} (hl:LOk l) {x:Zv} (h:x ∈ l.Shuttles):(0 ≤ x.Side∧x.Side ≤ 1)∧(0 ≤ x.Box∧x.Box ≤ 3):=by
 have hok:=hl.sh _ h
 unfold okS at hok
 simp only [Bool.and_eq_true,Wl] at hok
 obtain ⟨⟨⟨_,hs⟩,hb⟩,_⟩:=hok
 have:=hl.box (i:=x.Side.toNat) (by omega)
 exact ⟨hs,by omega⟩
def okQ (p:Gf):Prop:=(0 ≤ p.Left∧p.Left ≤ 3)∧(0 ≤ p.Right∧p.Right ≤ 3)
theorem okP.q {l:BoxLoom} (hl:LOk l) {p:Gf} (h:okP l.Boxes p=true):okQ p:=by
 have h1:=Uu.1 h
 have b0:=hl.box (i:=0) (by omega)
 have b1:=hl.box (i:=1) (by omega)
 unfold okQ; omega
section
variable {l:BoxLoom} {ps:List Gf} (hl:LOk l) (hp:∀ p ∈ ps,okP l.Boxes p=true)
include hl hp
end
end Go.Proofs.Ytmpjooneiaiffaa
/- Plain laws: the shuttles that picks throw, and the box moves, exactly. -/
set_option maxRecDepth 8000
namespace Go.Proofs.Ytmpjooneiaiffaa
open Go.RowKit
open Classical

noncomputable def thl : BoxLoom → List Gf → List Nat
 | _,[]=>[]
 | l, p :: ps => match Ka l p with
  | some (n,i,_)=>i :: thl n ps
  | none=>[]
noncomputable def mvt : BoxLoom → List Gf → Int
 | _,[]=>0
 | l, p :: ps => match Ka l p with
  | some (n,_,m)=>m + mvt n ps
  | none=>0
theorem Fw : ∀ (a b : List Gf) {l n : BoxLoom}, thr l a = some n → thl l (a ++ b) = thl l a ++ thl n b
 | [],b,l,n,h=>by cases h; rfl
 | p :: a,b,l,n,h=>by
  rw [Xe] at h
  rw [List.cons_append,thl,thl]
  cases ho:Ka l p with
  | none=>rw [ho] at h; cases h
  | some x=>rw [ho] at h; exact congrArg (List.cons x.2.1) (Fw a b h)
theorem Lp : ∀ (a b : List Gf) {l n : BoxLoom}, thr l a = some n → mvt l (a ++ b) = mvt l a + mvt n b
 | [],b,l,n,h=>by cases h; exact (Int.zero_add _).symm
 | p :: a,b,l,n,h=>by
  rw [Xe] at h
  rw [List.cons_append,mvt,mvt]
  cases ho:Ka l p with
  | none=>rw [ho] at h; cases h
  | some x=>
   rw [ho] at h
   have:=Lp a b h
   show x.2.2 + mvt x.1 (a ++ b)=x.2.2 + mvt x.1 a + mvt n b
   omega
theorem Py {l:BoxLoom} (hl:LOk l) {ps:List Gf}:(∀ p ∈ ps,okP l.Boxes p=true)→0 ≤ mvt l ps∧mvt l ps ≤ 6 * ps.length:=by
 induction ps generalizing l with
 | nil=>intro _; exact ⟨by rw [mvt]; omega,by rw [mvt]; simp⟩
 | cons p ps ih=>
  intro hp
  rw [mvt]
  cases ho:Ka l p with
  | none=>exact ⟨Int.le_refl _,by simp; omega⟩
  | some x=>
   obtain ⟨n,i,m⟩:=x
   obtain ⟨h1,h2,_,_,h5⟩:=Ja hl (hp p (by simp)) ho
   have:=ih h1 fun q hq=>by rw [h2]; exact hp q (by simp [hq])
   show 0 ≤ m + mvt n ps∧m + mvt n ps ≤ 6 * ((ps.length + 1:Nat):Int)
   omega
end Go.Proofs.Ytmpjooneiaiffaa
/- BoxRounds. -/
set_option maxRecDepth 8000
namespace Go.Proofs.Ytmpjooneiaiffaa
open Go.RowKit
open Classical

end Go.Proofs.Ytmpjooneiaiffaa
/- Plain laws: what box.Throw answers. -/
set_option maxRecDepth 8000
namespace Go.Proofs.Ytmpjooneiaiffaa
open Go.RowKit
open Classical

def Qy (l:BoxLoom) (i:Nat):Int:=(l.Shuttles[i]?.map (·.Colour)).getD 0
theorem Bd {l:BoxLoom} {i:Nat} (h:i < l.Shuttles.length):Qy l i=l.Shuttles[i].Colour:=by unfold Qy; rw [List.getElem?_eq_getElem h]; rfl
theorem thl_lt {ps:List Gf}:∀ {l:BoxLoom},LOk l→(∀ p ∈ ps,okP l.Boxes p=true)→∀ i ∈ thl l ps,i < l.Shuttles.length:=by
 induction ps with
 | nil=>intro l _ _ i h; rw [thl] at h; cases h
 | cons p ps ih=>
  intro l hl hp i h
  rw [thl] at h
  cases ho:Ka l p with
  | none=>rw [ho] at h; cases h
  | some x=>
   obtain ⟨a,j,m⟩:=x
   rw [ho] at h
   obtain ⟨k1,k2,k3,k4,_⟩:=Ja hl (hp p (by simp)) ho
   rcases List.mem_cons.1 h with rfl | h
   ·exact k4
   ·have := ih k1 (fun q hq => by rw [k2]; exact hp q (by simp [hq])) i h
    omega
theorem thl_len {ps:List Gf}:∀ {l:BoxLoom},(thl l ps).length ≤ ps.length:=by
 induction ps with
 | nil=>intro l; rw [thl]; exact Nat.le_refl _
 | cons p ps ih=>
  intro l
  rw [thl]
  cases ho:Ka l p with
  | none=>exact Nat.zero_le _
  | some x=>exact Nat.succ_le_succ ih
end Go.Proofs.Ytmpjooneiaiffaa
/- Plain laws: full, and standing. -/
set_option maxRecDepth 8000
namespace Go.Proofs.Ytmpjooneiaiffaa
open Go.RowKit
open Classical

def BxV (v:Vector (Vector Int 4) 2) (l:BoxLoom):Prop:=∀ (s b:Nat) (hs:s < 2) (hb:b < 4),v[s][b]=inX l.Shuttles s b + 1
theorem s45 {l:BoxLoom} (hl:LOk l):Yes (f45 l) (fun v=>BxV v l):=by
 have hf:=hl.few
 unfold f45
 refine Yes.bind (Yes.upto l.Shuttles.length (by omega) (fun n t=>∀ (s b:Nat) (hs:s < 2) (hb:b < 4),(∀ j,j < n→Hs l.Shuttles s b j→t[s][b]=(j:Int) + 1)∧((∀ j,j < n→¬ Hs l.Shuttles s b j)→t[s][b]=0)) ?_ (fun i t k hi hI hk=>?_) (fun t k hI=>?_))
 ·intro s b hs hb
  refine ⟨fun j h=>absurd h (Nat.not_lt_zero _),fun _=>?_⟩
  rcases (by omega:s=0 ∨ s=1) with rfl | rfl <;> rcases (by omega:b=0 ∨ b=1 ∨ b=2 ∨ b=3) with rfl | rfl | rfl | rfl <;> rfl
 ·have hok := okS_plc hl (List.getElem_mem hi)
  obtain ⟨S,hS⟩:∃ S:Nat,l.Shuttles[i].Side=S:=⟨l.Shuttles[i].Side.toNat,by omega⟩
  obtain ⟨B,hB⟩:∃ B:Nat,l.Shuttles[i].Box=B:=⟨l.Shuttles[i].Box.toNat,by omega⟩
  have hS2:S < 2:=by omega
  have hB4:B < 4:=by omega
  refine Yes.jn (Qr (by simp; omega) (Yes.jn (Yes.bind (Gj _ (Wu hi) (Gj _ (Wu hi) ?_)))))
  rw [hS,hB,Tl (n:=(i:Int) + 1) (by omega) (by omega)]
  refine Gj _ (Hu t hS2) (Gj _ (Hu _ hB4) (Yes.some ?_))
  have hk:=hk (Jq t (S:Int) (fun b=>Ku b (B:Int) ((i:Int) + 1)))
  rw [Tl (n:=(i:Int) + 1) (by omega) (by omega)] at hk
  refine hk fun s b hs hb=>?_
  have hat:Hs l.Shuttles S B i:=⟨hi,hS,hB⟩
  obtain ⟨o1,o2⟩:=hI s b hs hb
  by_cases hsb:S=s∧B=b
  ·obtain ⟨rfl, rfl⟩ := hsb
   have hv:(Jq t (S:Int) (fun b=>Ku b (B:Int) ((i:Int) + 1)))[S][B]=(i:Int) + 1:=by
    rw [Js hs,if_pos rfl,Ua hb,if_pos rfl]
   rw [hv]
   exact ⟨fun j _ hj=>by rw [hl.dst.one hj hat],fun h=>absurd hat (h i (by omega))⟩
  ·have hv:(Jq t (S:Int) (fun b=>Ku b (B:Int) ((i:Int) + 1)))[s][b]=t[s][b]:=by
    by_cases hss:S=s
    ·subst hss
     rw [Js hs,if_pos rfl,Ua hb,if_neg (fun h=>hsb ⟨rfl,h⟩)]
    ·rw [Js hs,if_neg hss]
   rw [hv]
   refine ⟨fun j hj hja=>?_,fun h=>o2 fun j hj=>h j (by omega)⟩
   rcases Nat.lt_succ_iff_lt_or_eq.1 hj with h | rfl
   ·exact o1 j h hja
   ·have := Ca hat hja
    exact absurd ⟨by omega,by omega⟩ hsb
 ·refine Yes.jn (Tw (by simp) (Yes.some (Yes.some fun s b hs hb => ?_)))
  obtain ⟨o1,o2⟩:=hI s b hs hb
  rcases Jl hl.dst s b with ⟨i,hi,e⟩ | ⟨hi,e⟩
  ·rw [e,o1 i hi.1 hi]
  ·rw [e,o2 fun j _ h=>hi ⟨j,h⟩]; rfl
structure Smb (n l : BoxLoom) : Prop where
 bx:n.Boxes=l.Boxes
 len:n.Shuttles.length=l.Shuttles.length
 sm:∀ i (h:i < n.Shuttles.length) (h':i < l.Shuttles.length),n.Shuttles[i].Colour=l.Shuttles[i].Colour∧n.Shuttles[i].Yarn=l.Shuttles[i].Yarn
theorem Smb.trans {a b c:BoxLoom} (h:Smb a b) (k:Smb b c):Smb a c:=⟨h.bx.trans k.bx,h.len.trans k.len,fun i h1 h2=>by
 have h3:i < b.Shuttles.length:=by rw [k.len]; exact h2
 exact ⟨(h.sm i h1 h3).1.trans (k.sm i h3 h2).1,(h.sm i h1 h3).2.trans (k.sm i h3 h2).2⟩⟩
end Go.Proofs.Ytmpjooneiaiffaa
/- Plain laws: the loom of bytes is all right. -/
set_option maxRecDepth 8000
namespace Go.Proofs.Ytmpjooneiaiffaa
open Go.RowKit
open Classical

theorem Yy {a b:Int} (ha:0 ≤ a) (hb:0 < b):Uj a b=some (a % b):=by
 unfold Uj; rw [if_neg (by omega),Int.tmod_eq_emod_of_nonneg ha]
def pk (b0:Int) (s:Zv):Nat:=if s.Side=0 then s.Box.toNat else b0.toNat + s.Box.toNat
theorem dst_snoc {xs:List Zv} (h:Dst xs) {s:Zv} (hn:∀ x ∈ xs,¬ (x.Side=s.Side∧x.Box=s.Box)):Dst (xs ++ [s]):=by
 have el:∀ k (hk:k < (xs ++ [s]).length),(∃ h':k < xs.length,(xs ++ [s])[k]=xs[k]) ∨ (k=xs.length∧(xs ++ [s])[k]=s):=fun k hk=>by
  by_cases hk':k < xs.length
  ·exact .inl ⟨hk',List.getElem_append_left hk'⟩
  ·have hk2 : k = xs.length := by simp at hk; omega
   subst hk2
   exact .inr ⟨rfl,by simp⟩
 intro i j hi hj hji
 rcases el i hi with ⟨hi',ei⟩ | ⟨hi',ei⟩ <;> rcases el j hj with ⟨hj',ej⟩ | ⟨hj',ej⟩ <;> rw [ei,ej]
 ·exact h i j hi' hj' hji
 ·omega
 ·exact fun he=>hn _ (List.getElem_mem hj') ⟨he.1.symm,he.2.symm⟩
 ·omega
theorem s38y (x:Yb):Yes (f38 x) (fun l=>LOk l∧∀ y ∈ l.Shuttles,y.Yarn.High ≤ 20):=by
 unfold f38
 obtain ⟨B,Sh,Pk⟩:=x
 have byte:∀ u:UInt8,(0:Int) ≤ (u.toNat:Int)∧(u.toNat:Int) ≤ 255:=fun u=>by have:=u.toNat_lt; omega
 refine Gj _ (Hu B (i:=0) (by omega)) (Gj _ (Yy (byte _).1 (by omega)) (Gj _ (Hu B (i:=1) (by omega)) (Gj _ (Yy (byte _).1 (by omega)) (Gj _ (Hu B (i:=2) (by omega)) ?_))))
 obtain ⟨b0,hb0,h0⟩:∃ b0:Int,w64 ((1:Int) + (B[0].toNat:Int) % (4:Int))=b0∧1 ≤ b0∧b0 ≤ 4:=⟨_,rfl,by rw [Tl (by omega) (by omega)]; omega⟩
 obtain ⟨b1,hb1,h1⟩:∃ b1:Int,w64 ((1:Int) + (B[1].toNat:Int) % (4:Int))=b1∧1 ≤ b1∧b1 ≤ 4:=⟨_,rfl,by rw [Tl (by omega) (by omega)]; omega⟩
 rw [hb0,hb1]
 refine Gj b0 rfl (Gj _ (Yy (byte _).1 (by omega)) (Gj _ (Hu B (i:=3) (by omega)) (Gj b1 rfl (Gj _ (Yy (byte _).1 (by omega)) (Yes.bind ?_)))))
 obtain ⟨a0,ha0,g0⟩:∃ a0:Int,(B[2].toNat:Int) % b0=a0∧0 ≤ a0∧a0 < b0:=⟨_,rfl,Int.emod_nonneg _ (by omega),Int.emod_lt_of_pos _ (by omega)⟩
 obtain ⟨a1,ha1,g1⟩:∃ a1:Int,(B[3].toNat:Int) % b1=a1∧0 ≤ a1∧a1 < b1:=⟨_,rfl,Int.emod_nonneg _ (by omega),Int.emod_lt_of_pos _ (by omega)⟩
 rw [ha0,ha1]
 refine Yes.lp (fun s => ∃ k : Nat, s.2.2 = (k : Int) ∧ k ≤ 6 ∧ s.1.Boxes = [b0, b1] ∧ s.1.At = [a0, a1] ∧ s.1.Shuttles.length ≤ k ∧ (k = 0 → ∀ j (h : j < 8), s.2.1[j] = false) ∧ (1 ≤ k → 0 < s.1.Shuttles.length) ∧ (∀ y ∈ s.1.Shuttles, (okS [b0, b1] y = true ∧ y.Yarn.High ≤ 20) ∧ ∃ h : pk b0 y < 8, s.2.1[pk b0 y] = true) ∧ Dst s.1.Shuttles)
  (fun s=>7 - s.2.2.toNat) ⟨0,rfl,by omega,rfl,rfl,by simp,fun _ j h=>?_,fun h=>absurd h (by omega),by simp,fun i j hi=>absurd hi (Nat.not_lt_zero _)⟩ (by simp) ?_
 ·rcases (by omega:j=0 ∨ j=1 ∨ j=2 ∨ j=3 ∨ j=4 ∨ j=5 ∨ j=6 ∨ j=7) with rfl | rfl | rfl | rfl | rfl | rfl | rfl | rfl <;> rfl
 rintro ⟨l,us,o⟩ kk ⟨k,rfl,k6,c1,c2,c3,c4,c5,c6,c7⟩ hk
 simp only at c1 c2 c3 c4 c5 c6 c7
 refine Yes.jn (Yes.bind (Yes.mono (Q':=fun b=>b=decide (k=0 ∨ (k < Sh.length∧k < 6))) ?_ fun b hb=>?_))
 ·refine Yes.cond (fun hc => Yes.some ?_) (fun hc => Yes.cond (fun hc2 => Yes.some ?_) (fun hc2 => Yes.some ?_))
  ·have : (k : Int) = 0 := by simpa using hc
   exact (decide_eq_true (.inl (by omega))).symm
  ·have : ¬ (k : Int) = 0 := by simpa using hc
   have h2:(k:Int) < (Sh.length:Int):=of_decide_eq_true hc2
   rw [decide_eq_decide]
   constructor
   ·intro h; exact .inr ⟨by omega,by omega⟩
   ·rintro (h | h) <;> omega
  ·have : ¬ (k : Int) = 0 := by simpa using hc
   have h2:¬ (k:Int) < (Sh.length:Int):=of_decide_eq_false hc2
   exact (decide_eq_false (by omega)).symm
 subst hb
 refine Yes.cond (fun hc=>?_) (fun hc=>Yes.some (Yes.some ?_))
 ·have hc := of_decide_eq_true hc
  have hk1:k + 1 ≤ 6:=by omega
  have next:∀ (l':BoxLoom) (us':Vector Bool 8),l'.Boxes=[b0,b1]→l'.At=[a0,a1]→l'.Shuttles.length ≤ k + 1→0 < l'.Shuttles.length→(∀ y ∈ l'.Shuttles,(okS [b0,b1] y=true∧y.Yarn.High ≤ 20)∧∃ h:pk b0 y < 8,us'[pk b0 y]=true)→Dst l'.Shuttles→Yes (kk (l',us',w64 ((k:Int) + 1))) fun r=>Yes (some r) fun l=>LOk l∧∀ y ∈ l.Shuttles,y.Yarn.High ≤ 20:=fun l' us' d1 d2 d3 d4 d5 d6=>by
   rw [Tl (by omega) (by omega)]
   refine hk _ ⟨k + 1,by simp,hk1,d1,d2,d3,fun h=>absurd h (by omega),fun _=>d4,d5,d6⟩ ?_
   show 7 - ((k:Int) + 1).toNat < 7 - ((k:Int)).toNat
   omega
  refine Yes.jn (Yes.bind (Yes.bind (Yes.mono (Q':=fun _=>True) ?_ fun v _=>?_)))
  ·exact Yes.cond (fun hc=>Yes.bind (Yes.idx rfl (of_decide_eq_true hc |> Int.ofNat_lt.1) (Yes.some trivial))) (fun _=>Yes.some trivial)
  ·rw [c1]
   refine Gj b0 rfl (Gj b1 rfl (Gj _ (by rw [Tl (by omega) (by omega)]; exact Yy (byte _).1 (by omega)) ?_))
   obtain ⟨u,hu,hu2⟩:∃ u:Nat,(v[0].toNat:Int) % (b0 + b1)=u∧(u:Int) < b0 + b1:=by
    have e1:=Int.emod_nonneg (v[0].toNat:Int) (show b0 + b1 ≠ 0 by omega)
    have e2:=Int.emod_lt_of_pos (v[0].toNat:Int) (show 0 < b0 + b1 by omega)
    exact ⟨((v[0].toNat:Int) % (b0 + b1)).toNat,by omega,by omega⟩
   rw [hu]
   have hu8:u < 8:=by omega
   refine Yes.jn (Gj _ (Hu us hu8) (Yes.cond (fun hc2=>Yes.some ?_) (fun hc2=>?_)))
   ·have hk0:1 ≤ k:=by
     rcases Nat.eq_zero_or_pos k with h | h
     ·rw [c4 h u hu8] at hc2; cases hc2
     ·exact h
    exact next l us c1 c2 (by omega) (c5 hk0) c6 c7
   ·refine Gj _ (Hu us hu8) (Gj _ (Yy (byte _).1 (by omega)) (Gj _ (Yy (byte _).1 (by omega)) (Gj _ (Yy (byte _).1 (by omega)) (Gj _ (Yy (byte _).1 (by omega)) (Gj _ rfl (Yes.bind (Yes.mono (Q' := fun s => (okS [b0, b1] s = true ∧ s.Yarn.High ≤ 20) ∧ pk b0 s = u) ?_ fun s hs => ?_)))))))
    ·have y1 := byte v[1]; have y2 := byte v[2]; have y3 := byte v[3]
     refine Gj b0 rfl (Yes.cond (fun hc3=>Gj b0 rfl (Yes.some ?_)) (fun hc3=>Yes.some ?_))
     ·have hge := of_decide_eq_true hc3
      rw [Tl (n:=(u:Int) - b0) (by omega) (by omega),Tl (n:=_ + _) (by omega) (by omega)]
      refine ⟨⟨?_,by show (v[2].toNat:Int) % 12 + (v[3].toNat:Int) % 5 ≤ 20; omega⟩,?_⟩
      ·unfold okS
       simp only [Bool.and_eq_true,Wl,decide_eq_true_eq]
       refine ⟨⟨⟨by omega,by omega⟩,?_⟩,by omega⟩
       show 0 ≤ (u:Int) - b0∧(u:Int) - b0 ≤ b1 - 1
       omega
      ·unfold pk; rw [if_neg (by simp)]; show b0.toNat + ((u:Int) - b0).toNat=u; omega
     ·have hlt := of_decide_eq_false hc3
      rw [Tl (n:=_ + _) (by omega) (by omega)]
      refine ⟨⟨?_,by show (v[2].toNat:Int) % 12 + (v[3].toNat:Int) % 5 ≤ 20; omega⟩,?_⟩
      ·unfold okS
       simp only [Bool.and_eq_true,Wl,decide_eq_true_eq]
       refine ⟨⟨⟨by omega,by omega⟩,?_⟩,by omega⟩
       show 0 ≤ (u:Int)∧(u:Int) ≤ b0 - 1
       omega
      ·unfold pk; rw [if_pos rfl]; show ((u:Int)).toNat=u; omega
    ·obtain ⟨s1, s2⟩ := hs
     refine Yes.bind (Yes.apnd (by simp; omega) (by simp; omega) (Yes.some (next _ _ rfl c2 (by simp; omega) (by simp) ?_ ?_)))
     ·intro y hy
      have hup:∀ j (h:j < 8),us[j]=true→(Ku us (u:Int) true)[j]=true:=fun j h ht=>by
       rw [Ua h]
       split
       ·rfl
       ·exact ht
      rcases List.mem_append.1 hy with hy | hy
      ·obtain ⟨d1, d2, d3⟩ := c6 y hy
       exact ⟨d1,d2,hup _ d2 d3⟩
      ·rw [List.mem_singleton.1 hy]
       exact ⟨s1,by rw [s2]; exact hu8,by simp only [s2]; rw [Ua hu8,if_pos rfl]⟩
     ·refine dst_snoc c7 fun y hy he => ?_
      obtain ⟨_,d2,d3⟩:=c6 y hy
      have:pk b0 y=u:=by rw [← s2]; unfold pk; rw [he.1,he.2]
      simp only [this] at d3
      rw [d3] at hc2; cases hc2
 ·have hc := of_decide_eq_false hc
  have hk0:1 ≤ k:=by omega
  refine ⟨⟨⟨by rw [c1]; rfl,by rw [c2]; rfl⟩,fun i hi=>?_,by omega,c5 hk0,fun y hy=>by rw [c1]; exact (c6 y hy).1.1,c7⟩,fun y hy=>(c6 y hy).1.2⟩
  unfold Jp
  rw [c1,c2,Bool.and_eq_true,Wl,Wl]
  rcases (by omega:i=0 ∨ i=1) with rfl | rfl
  ·show (1 ≤ b0∧b0 ≤ 4)∧0 ≤ a0∧a0 ≤ b0 - 1; omega
  ·show (1 ≤ b1∧b1 ≤ 4)∧0 ≤ a1∧a1 ≤ b1 - 1; omega
theorem s38 (x:Yb):Yes (f38 x) (fun l=>LOk l):=(s38y x).mono fun _ h=>h.1
end Go.Proofs.Ytmpjooneiaiffaa
/- Plain laws: the picks of bytes can be thrown. -/
set_option maxRecDepth 8000
namespace Go.Proofs.Ytmpjooneiaiffaa
open Go.RowKit
open Classical

theorem bx_step {v : Vector (Vector Int 4) 2} {m : BoxLoom} (hv : BxV v m) (hm : LOk m) {p : Gf} (hp : okP m.Boxes p = true) {L R : Nat} (hL : p.Left = L) (hR : p.Right = R) (hL4 : L < 4) (hR4 : R < 4)
  (hc:((v[0][L] == (0:Int)) == (v[1][R] == (0:Int)))=false):∃ n i q,Ka m p=some (n,i,q)∧BxV (Jq (Jq v ((0:Int)) (fun b=>Ku b (L:Int) v[1][R])) ((1:Int)) (fun b=>Ku b (R:Int) v[0][L])) n:=by
 have hr:Rel ⟨v,⟨m.At.getD 0 0,m.At.getD 1 0⟩⟩ m:=⟨hv,rfl⟩
 have hp':=Uu.1 hp
 have b0:=hm.box (i:=0) (by omega)
 have b1:=hm.box (i:=1) (by omega)
 have a0:=hm.at (i:=0) (by omega)
 have a1:=hm.at (i:=1) (by omega)
 obtain ⟨x,hx,hq⟩:=s97 hr hm hp
 have h2:Yes (f97 ⟨v,⟨m.At.getD 0 0,m.At.getD 1 0⟩⟩ p) (fun x=>x.1.boxes=Jq (Jq v ((0:Int)) (fun b=>Ku b (L:Int) v[1][R])) ((1:Int)) (fun b=>Ku b (R:Int) v[0][L])∧x.1.at_=p):=by
  unfold f97
  rw [hL,hR]
  refine Gj _ (Hu v (i:=0) (by omega)) (Gj _ (Hu _ hL4) (Gj _ (Hu v (i:=1) (by omega)) (Gj _ (Hu _ hR4) (Yes.jn (Tw hc ?_)))))
  exact Gj _ (s106 (by show 0 ≤ m.At.getD 0 0∧m.At.getD 0 0 ≤ 1000; omega) (by omega)) (Gj _ (s106 (by show 0 ≤ m.At.getD 1 0∧m.At.getD 1 0 ≤ 1000; omega) (by omega)) (Gj _ (Hu v (i:=0) (by omega)) (Gj _ (Hu _ hL4) (Gj _ (Hu _ (i:=1) (by omega)) (Gj _ (Hu _ hR4) (Yes.some ⟨rfl,rfl⟩))))))
 obtain ⟨y,hy,hb,hat⟩:=h2
 have hxy:x=y:=Option.some.inj (hx.symm.trans hy)
 subst hxy
 cases ho:Ka m p with
 | none=>
  exfalso
  rw [Xd hm.dst,hL,hR] at ho
  have e0:=hv 0 L (by omega) hL4
  have e1:=hv 1 R (by omega) hR4
  have h0:inX m.Shuttles (0:Int) (L:Int) + (1:Int)=v[0][L]:=e0.symm
  have h1:inX m.Shuttles (1:Int) (R:Int) + (1:Int)=v[1][R]:=e1.symm
  rw [h0,h1] at ho
  have:(v[0][L] == (0:Int))=(v[1][R] == (0:Int)):=by
   rw [Bool.eq_iff_iff,beq_iff_eq,beq_iff_eq]; exact ho
  rw [this] at hc
  simp at hc
 | some z=>
  obtain ⟨n,i,q⟩:=z
  rw [ho] at hq
  exact ⟨n,i,q,rfl,fun s b hs hb'=>by rw [← hq.1.bx s b hs hb']; simp only [hb]⟩
theorem quo_nn8 {a:Int} (ha:0 ≤ a) (ha2:a ≤ 255):Af a 8=some (a / 8):=quo_nn ha (by omega) (by omega)
end Go.Proofs.Ytmpjooneiaiffaa
/- Plain laws: picks thrown the other way round bring all back. -/
set_option maxRecDepth 8000
namespace Go.Proofs.Ytmpjooneiaiffaa
open Go.RowKit
open Classical

theorem Ir {ps:List Gf}:∀ {l n:BoxLoom},thr l ps=some n→(thl l ps).length=ps.length:=by
 induction ps with
 | nil=>intro l n _; rw [thl]; rfl
 | cons p ps ih=>
  intro l n h
  rw [Xe] at h
  rw [thl]
  cases ho:Ka l p with
  | none=>rw [ho] at h; cases h
  | some x=>rw [ho] at h; exact congrArg Nat.succ (ih h)
end Go.Proofs.Ytmpjooneiaiffaa
/- BoxBack. -/
set_option maxRecDepth 8000
namespace Go.Proofs.Ytmpjooneiaiffaa
open Go.RowKit
open Classical

end Go.Proofs.Ytmpjooneiaiffaa
