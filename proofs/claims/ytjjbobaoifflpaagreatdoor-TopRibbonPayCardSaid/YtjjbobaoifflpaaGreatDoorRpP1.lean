/- TopRibbonPay: pieces of cloths, what they earn. -/
import Derived.Test.YtjjbobaoifflpaaGreatDoorRpQ2
set_option maxRecDepth 8000
namespace Go.Proofs.YtjjbobaoifflpaaGreatDoor
open Go.RowKit
open Classical
theorem apn {α:Type} {bytes:Nat} {xs ys:List α} (h:xs.length + ys.length ≤ 1000) (hb:bytes ≤ 1000):apnd bytes xs ys=some (xs ++ ys):=by
 unfold apnd
 have:=Nat.mul_le_mul h hb
 rw [if_pos ⟨by omega,by omega⟩]
def De : List Z2 → Int
 | []=>0
 | c :: l=>c.Picks + De l
theorem R1 {c : Z2} : ∀ {l : List Z2}, De (l ++ [c]) = De l + c.Picks
 | []=>by simp [De]
 | d :: l=>by simp only [List.cons_append,De,R1]; omega
theorem S2 : ∀ {l : List Z2}, (∀ c ∈ l, OkC c) → 0 ≤ De l ∧ De l ≤ 15 * (l.length : Int)
 | [],_=>by simp [De]
 | d :: l,h=>by
  have ih:=S2 (l:=l) fun c hc=>h c (List.mem_cons_of_mem _ hc)
  have:=(h d (by simp)).2.2.2.2
  simp only [De,List.length_cons]
  omega
def pkI (w : Int) : List Z2 → Int
 | []=>0
 | c :: l=>(if c.Loom=w then c.Picks else 0) + pkI w l
theorem Io {k : Nat} : ∀ {l : List Z2}, K9 k l = pkI (k : Int) l
 | []=>rfl
 | d :: l=>by simp only [K9,pkI,Io]
theorem Mj {w : Int} {c : Z2} : ∀ {l : List Z2}, pkI w (l ++ [c]) = pkI w l + (if c.Loom = w then c.Picks else 0)
 | []=>by simp [pkI]
 | d :: l=>by simp only [List.cons_append,pkI,Mj]; omega
theorem C2 {w : Int} : ∀ {l : List Z2}, (∀ c ∈ l, OkC c) → 0 ≤ pkI w l ∧ pkI w l ≤ 15 * (l.length : Int)
 | [],_=>by simp [pkI]
 | d :: l,h=>by
  have ih:=C2 (w:=w) (l:=l) fun c hc=>h c (List.mem_cons_of_mem _ hc)
  have:=(h d (by simp)).2.2.2.2
  simp only [pkI,List.length_cons]
  split <;> omega
theorem Rr : ∀ {l : List Z2}, (∀ c ∈ l, OkC c) → De l = pkI 0 l + pkI 1 l + pkI 2 l
 | [],_=>rfl
 | d :: l,h=>by
  have ih:=Rr (l:=l) fun c hc=>h c (List.mem_cons_of_mem _ hc)
  have hd:=(h d (by simp)).2.1
  simp only [De,pkI]
  rcases (by omega:d.Loom=0 ∨ d.Loom=1 ∨ d.Loom=2) with e | e | e <;> rw [e] <;> simp <;> omega
def pcW (w n:Int):Gf:=⟨w,50,1000 * n,[],0⟩
section
variable {P:PayList} {w n:Int}
theorem pc_ok (hw:0 ≤ w∧w ≤ 50) (hn:0 ≤ n∧n ≤ 1000):Ke P (pcW w n):=by
 refine ⟨Qh.2 hw,Qh.2 (by show (0:Int) ≤ 50∧(50:Int) ≤ 1000; omega),Qh.2 ⟨by show 0 ≤ 1000 * n; omega,by show 1000 * n ≤ 1000000; omega⟩,Qh.2 (by show (0:Int) ≤ 0∧(0:Int) ≤ 100; omega),fun x hx=>(by cases hx),fun i h=>absurd h (by show ¬ i + 1 < 0; omega)⟩
theorem Ap (hP:Yb P) (hn:0 ≤ n∧n ≤ 1000):Hu P (pcW w n) 0=n * Kd P.Rates 50:=by
 have hr:=Bk hP 50
 have he:Ue P (pcW w n)=n * Kd P.Rates 50:=by
  show 1000 * n * Kd P.Rates 50 * 1000 / 1000000=_
  generalize Kd P.Rates 50=r
  rw [show 1000 * n * r * 1000=(n * r) * 1000000 by rw [Int.mul_assoc 1000 n r]; omega]
  exact Int.mul_ediv_cancel _ (by decide)
 have hm:=Vl hn.1 hn.2 hr.1 hr.2
 have hf:Uw P (n * Kd P.Rates 50) 0=0:=by
  have h1:=U9 hP (e:=n * Kd P.Rates 50) (n:=0) (by omega) (by omega)
  have h2:Uw P (n * Kd P.Rates 50) 0 ≤ 0 * P.Fine:=Int.min_le_left _ _
  omega
 unfold Hu
 rw [he,hf,Int.sub_zero]
end
def pcs (y:List Z2):List Gf:=y.map fun c=>pcW c.Loom c.Picks
section
variable {P:PayList}
theorem I1 {y:List Z2} {c:Z2}:pcs (y ++ [c])=pcs y ++ [pcW c.Loom c.Picks]:=by simp [pcs]
theorem Mp {y:List Z2}:(pcs y).length=y.length:=by simp [pcs]
theorem M0 (hP : Yb P) {w : Int} : ∀ {y : List Z2}, (∀ c ∈ y, OkC c) → Kx P (pcs y) w = pkI w y * Kd P.Rates 50
 | [],_=>by simp [pcs,Kx,pkI]
 | d :: l,h=>by
  have ih:=M0 hP (w:=w) (y:=l) fun c hc=>h c (List.mem_cons_of_mem _ hc)
  have hd:=(h d (by simp)).2.2.2.2
  have e:Kx P (pcs (d :: l)) w=(if d.Loom=w then Hu P (pcW d.Loom d.Picks) 0 else 0) + Kx P (pcs l) w:=by
   unfold Kx
   rw [show pcs (d :: l)=pcW d.Loom d.Picks :: pcs l from rfl,List.filter_cons]
   by_cases hw:d.Loom=w
   ·rw [if_pos hw,if_pos (by show (d.Loom == w)=true; simpa using hw),List.map_cons,List.sum_cons]; rfl
   ·rw [if_neg hw,if_neg (by show ¬ (d.Loom == w)=true; simpa using hw)]; omega
  rw [e,ih,Ap hP (by omega),pkI,Int.add_mul]
  split <;> simp
theorem Ew {w:Int}:∀ {y:List Z2},Hn (pcs y) w=true→∃ c ∈ y,c.Loom=w:=fun {y} h=>by
 unfold Hn at h
 obtain ⟨p,hp,hw⟩:=List.any_eq_true.1 h
 obtain ⟨c,hc,rfl⟩:=List.mem_map.1 hp
 exact ⟨c,hc,by simpa [pcW] using hw⟩
theorem Dp {w : Int} : ∀ {y : List Z2}, Hn (pcs y) w = false → pkI w y = 0
 | [],_=>rfl
 | d :: l,h=>by
  unfold Hn at h
  rw [show pcs (d :: l)=pcW d.Loom d.Picks :: pcs l from rfl,List.any_cons,Bool.or_eq_false_iff] at h
  have hw:¬ d.Loom=w:=by simpa [pcW] using h.1
  rw [pkI,if_neg hw,Dp (by unfold Hn; exact h.2)]; rfl
theorem Rq {y:List Z2} (h:∀ c ∈ y,OkC c):Qn (pcs y)=([0,1,2]:List Int).filter (Hn (pcs y)):=by
 unfold Qn
 rw [rng51,List.filter_append]
 have h1:((List.range 48).map fun i=>((i + 3:Nat):Int)).filter (Hn (pcs y))=[]:=by
  rw [List.filter_eq_nil_iff]
  intro x hx hh
  obtain ⟨i,_,rfl⟩:=List.mem_map.1 hx
  obtain ⟨c,hc,hl⟩:=Ew hh
  have:=(h c hc).2.1
  omega
 rw [h1,List.append_nil]
def Yc (y:List Z2) (l:List Int):Int:=(l.map fun w=>pkI w y).sum
theorem M9 {y:List Z2} {l:List Int} {w:Int}:Yc y (l ++ [w])=Yc y l + pkI w y:=by simp [Yc]
theorem Eg {y:List Z2} (h:∀ c ∈ y,OkC c):Yc y (Qn (pcs y))=De y:=by
 rw [Rq h,Rr h]
 have n0:=Dp (w:=0) (y:=y)
 have n1:=Dp (w:=1) (y:=y)
 have n2:=Dp (w:=2) (y:=y)
 simp only [List.filter_cons,List.filter_nil]
 cases h0:Hn (pcs y) 0 <;> cases h1:Hn (pcs y) 1 <;> cases h2:Hn (pcs y) 2 <;> simp [Yc] <;> simp [h0,h1,h2] at n0 n1 n2 <;> omega
theorem L0 {y : List Z2} (h : ∀ c ∈ y, OkC c) : ∀ {l : List Int}, 0 ≤ Yc y l ∧ Yc y l ≤ 15 * (y.length : Int) * l.length
 | []=>by simp [Yc]
 | w :: l=>by
  have ih:=L0 h (l:=l)
  have:=C2 (w:=w) h
  have e:Yc y (w :: l)=pkI w y + Yc y l:=by simp [Yc]
  rw [e,List.length_cons,show ((l.length + 1:Nat):Int)=(l.length:Int) + 1 by omega,Int.mul_add]
  omega
theorem Np (hP:Yb P) (hx:P.Extras=[]) {y:List Z2} (hy:Yj y):f12 P (pcs y)=some (Qn (pcs y),(Qn (pcs y)).map (Kx P (pcs y)),0,0):=by
 have h6:=hP.r6
 have h12:=hy.1
 have hall:∀ p ∈ pcs y,Ke P p∧p.Extras.length ≤ 12:=fun p hp=>by
  obtain ⟨c,hc,rfl⟩:=List.mem_map.1 hp
  have:=hy.2.2 c hc
  have h1:=this.2.1
  have h2:=this.2.2.2.2
  exact ⟨pc_ok (by omega) (by omega),by show (0:Nat) ≤ 12; omega⟩
 refine Yes.eq (Yes.mono (s27P (by omega) (by rw [hx]; simp) hP.chk (by rw [Mp]; omega) fun p hp=>(hall p hp).2) fun r hr=>?_)
 rcases hr with ⟨i,⟨h1,h2,_⟩,_⟩ | ⟨_,h⟩
 ·exact absurd (chk_of (hall _ (List.getElem_mem h1)).1) h2
 ·exact h
end
end Go.Proofs.YtjjbobaoifflpaaGreatDoor
