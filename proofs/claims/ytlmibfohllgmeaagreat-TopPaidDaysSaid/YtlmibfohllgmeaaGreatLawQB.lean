/- TopPaidDays: the plain law. -/
import Derived.Test.YtlmibfohllgmeaaGreatLawQA
set_option maxRecDepth 8000
namespace Go.Proofs.YtlmibfohllgmeaaGreat
open Go.RowKit
open Classical

theorem pub_shop_ok:f15=some true:=by kernel_rfl
theorem pub_pay_ok:f22=some true:=by kernel_rfl
theorem share_none:f21 0 [0,0,0]=some ([],2):=by kernel_rfl
theorem s23 (a:List Int) (h:a.length ≤ 1000):f23 a a=some true:=by
 refine Yes.eq ?_
 unfold f23
 refine Yes.jn (zskip (by simp) (Yes.jn ?_))
 refine Yes.upto0 a.length (by omega) (fun _=>True) trivial (fun i k hi _ hk=>?_) (fun k _=>?_)
 ·refine Yes.jn (ztake (decide_eq_true (by omega)) (Yes.jn (zbind _ (zidx hi) (zbind _ (zidx hi) (zskip (by simp) (hk trivial))))))
 ·exact Yes.jn (zskip (decide_eq_false (by omega)) (Yes.some rfl))

/-! ### What each loom weaves -/
def pieceQ (l:List LoomOrder) (pl:List LoomRun) (d:Int) (j:Nat):PayPiece:=⟨(rn pl j).Loom,d,1000 * (od l (j:Int)).Woven,[],0⟩
def psQ (l:List LoomOrder) (pl:List LoomRun) (d:Int) (i:Nat):List PayPiece:=(List.range i).map (pieceQ l pl d)
def dyQ (l : List LoomOrder) (pl : List LoomRun) : Nat → Int → Int
 | 0,_=>0
 | i + 1,k=>dyQ l pl i k + if (rn pl i).Loom=k then (od l (i:Int)).Woven else 0
def alQ (l : List LoomOrder) : Nat → Int
 | 0=>0
 | i + 1=>alQ l i + (od l (i:Int)).Woven
section
variable {l:List LoomOrder} {pl:List LoomRun} {d:Int} {P:PayList}
theorem psQ_succ (i:Nat):psQ l pl d (i + 1)=psQ l pl d i ++ [pieceQ l pl d i]:=by simp [psQ,List.range_succ]
theorem psQ_len (i:Nat):(psQ l pl d i).length=i:=by simp [psQ]
theorem tot_app (ps:List PayPiece) (p:PayPiece) (w:Int):totWP P (ps ++ [p]) w=totWP P ps w + if p.Weaver=w then wageLP P p p.Faults else 0:=by
 unfold totWP
 rw [List.filter_append,List.map_append,List.sum_append]
 by_cases hw:p.Weaver=w
 ·simp [hw]
 ·simp [hw]
theorem has_appQ (ps:List PayPiece) (p:PayPiece) (w:Int):hasWP (ps ++ [p]) w=(hasWP ps w || decide (p.Weaver=w)):=by
 unfold hasWP; simp [Bool.beq_eq_decide_eq]
structure Ran (l : List LoomOrder) (pl : List LoomRun) : Prop where
 n:l.length ≤ 6
 k:∀ j,j < l.length→0 ≤ (rn pl j).Loom∧(rn pl j).Loom ≤ 2
 w:∀ j:Nat,j < l.length→1 ≤ (od l (j:Int)).Woven∧(od l (j:Int)).Woven ≤ 12
theorem dy_bound (R : Ran l pl) (k : Int) : ∀ i, i ≤ l.length → 0 ≤ dyQ l pl i k ∧ dyQ l pl i k ≤ 12 * i
 | 0,_=>by simp [dyQ]
 | i + 1,h=>by
  have ih:=dy_bound R k i (by omega)
  have hw:=R.w i (by omega)
  rw [dyQ]; split <;> omega
theorem al_sum (R : Ran l pl) : ∀ i, i ≤ l.length → alQ l i = dyQ l pl i 0 + dyQ l pl i 1 + dyQ l pl i 2
 | 0,_=>rfl
 | i + 1,h=>by
  have ih:=al_sum R i (by omega)
  have hk:=R.k i (by omega)
  rw [alQ,dyQ,dyQ,dyQ,ih]
  have:(rn pl i).Loom=0 ∨ (rn pl i).Loom=1 ∨ (rn pl i).Loom=2:=by omega
  rcases this with h | h | h <;> simp [h] <;> omega
theorem al_pos (R : Ran l pl) : ∀ i, i ≤ l.length → (i : Int) ≤ alQ l i
 | 0,_=>by simp [alQ]
 | i + 1,h=>by
  have ih:=al_pos R i (by omega)
  have hw:=R.w i (by omega)
  rw [alQ]; omega
theorem has_dy (R : Ran l pl) (k : Int) : ∀ i, i ≤ l.length → hasWP (psQ l pl d i) k = decide (0 < dyQ l pl i k)
 | 0,_=>by simp [psQ,hasWP,dyQ]
 | i + 1,h=>by
  have ih:=has_dy R k i (by omega)
  have hb:=dy_bound R k i (by omega)
  have hw:=R.w i (by omega)
  rw [psQ_succ,has_appQ,ih,dyQ,show (pieceQ l pl d i).Weaver=(rn pl i).Loom from rfl]
  by_cases hk:(rn pl i).Loom=k
  ·rw [if_pos hk,decide_eq_true hk,Bool.or_true]; exact (decide_eq_true (by omega)).symm
  ·rw [if_neg hk,decide_eq_false hk,Bool.or_false,Int.add_zero]
theorem has_big (R:Ran l pl) {k:Int} (hk:3 ≤ k):∀ i,i ≤ l.length→hasWP (psQ l pl d i) k=false:=fun i h=>by
 rw [has_dy R k i h]
 have:∀ i,i ≤ l.length→dyQ l pl i k=0:=fun i=>by
  induction i with
  | zero=>intro _; rfl
  | succ i ih=>
   intro h
   have:=R.k i (by omega)
   rw [dyQ,ih (by omega),if_neg (by omega)]; rfl
 rw [this i h]; rfl
theorem rng51:rngIP 51=[0,1,2] ++ (List.range 48).map fun i=>((i + 3:Nat):Int):=by decide
theorem weav_is (R:Ran l pl):weavLP (psQ l pl d l.length)=([0,1,2]:List Int).filter fun k=>decide (0 < dyQ l pl l.length k):=by
 unfold weavLP
 rw [rng51,List.filter_append]
 have h1:((List.range 48).map fun i=>((i + 3:Nat):Int)).filter (hasWP (psQ l pl d l.length))=[]:=by
  rw [List.filter_eq_nil_iff]
  intro x hx
  obtain ⟨i,_,rfl⟩:=List.mem_map.1 hx
  rw [has_big R (by omega) _ (Nat.le_refl _)]; simp
 rw [h1,List.append_nil]
 refine List.filter_congr fun k _=>?_
 exact has_dy R k _ (Nat.le_refl _)
theorem piece_ok (R:Ran l pl) (hd:0 ≤ d∧d ≤ 255) {j:Nat} (h:j < l.length):okPieceP P (pieceQ l pl d j):=by
 have hk:=R.k j h
 have hw:=R.w j h
 refine ⟨btw_iffP.2 ⟨by show 0 ≤ (rn pl j).Loom; omega,by show (rn pl j).Loom ≤ 50; omega⟩,btw_iffP.2 ⟨by show 0 ≤ d; omega,by show d ≤ 1000; omega⟩,btw_iffP.2 ⟨by show 0 ≤ 1000 * (od l (j:Int)).Woven; omega,by show 1000 * (od l (j:Int)).Woven ≤ 1000000; omega⟩,btw_iffP.2 ⟨by show (0:Int) ≤ 0; omega,by show (0:Int) ≤ 100; omega⟩,fun x hx=>(by cases hx),fun i hi=>absurd hi (by show ¬ i + 1 < 0; omega)⟩
theorem chk_of {p:PayPiece} (h:okPieceP P p):chkPP P p=0:=by
 obtain ⟨h1,h2,h3,h4,h5,h6⟩:=h
 unfold chkPP
 rw [if_neg (fun h=>h ⟨h1,h2,h3,h4⟩),if_neg (fun h=>h h5),if_neg (fun h=>h h6)]
theorem tot_rng (R : Ran l pl) (hP : LOkP P) (hd : 0 ≤ d ∧ d ≤ 255) (k : Int) : ∀ i, i ≤ l.length → 0 ≤ totWP P (psQ l pl d i) k ∧ totWP P (psQ l pl d i) k ≤ 10010000000 * i
 | 0,_=>by simp [psQ,totWP]
 | i + 1,h=>by
  have ih:=tot_rng R hP hd k i (by omega)
  have:=wage_boundP hP (piece_ok (P:=P) R hd (j:=i) (by omega)) (by show (0:Nat) ≤ 1000; omega) (n:=0) (by omega)
  rw [psQ_succ,tot_app]
  show 0 ≤ _ + (if _ then wageLP P (pieceQ l pl d i) 0 else 0)∧_ + (if _ then wageLP P (pieceQ l pl d i) 0 else 0) ≤ _
  split <;> omega
theorem bill_is (R:Ran l pl) (hP:LOkP P) (hx:P.Extras=[]) (hd:0 ≤ d∧d ≤ 255):f20 P (psQ l pl d l.length)=some (weavLP (psQ l pl d l.length),(weavLP (psQ l pl d l.length)).map (totWP P (psQ l pl d l.length)),0,0):=by
 have hn:=R.n
 have h6:=hP.r6
 have hall:∀ p ∈ psQ l pl d l.length,okPieceP P p∧p.Extras.length ≤ 12:=fun p hp=>by
  obtain ⟨j,hj,rfl⟩:=List.mem_map.1 hp
  exact ⟨piece_ok R hd (List.mem_range.1 hj),by show (0:Nat) ≤ 12; omega⟩
 refine Yes.eq (Yes.mono (s27P (by omega) (by rw [hx]; simp) hP.chk (by rw [psQ_len]; omega) fun p hp=>(hall p hp).2) fun r hr=>?_)
 rcases hr with ⟨i,⟨h1,h2,_⟩,_⟩ | ⟨_,h⟩
 ·exact absurd (chk_of (hall _ (List.getElem_mem h1)).1) h2
 ·exact h
theorem share_is {a b c:Int} (ha:0 ≤ a∧a ≤ 100) (hb:0 ≤ b∧b ≤ 100) (hc:0 ≤ c∧c ≤ 100) (h:0 < a + b + c):f21 (a + b + c) [a,b,c]=some ([a,b,c],0):=by
 have hs:([a,b,c]:List Int).sum=a + b + c:=by simp; omega
 have g:GoodS (a + b + c) [a,b,c]:=⟨by omega,by omega,by simp,fun x hx=>by simp at hx; rcases hx with rfl | rfl | rfl <;> omega,by rw [hs]; exact h⟩
 rw [s7S g]
 have hq:∀ i,quoSS (a + b + c) [a,b,c] i=([a,b,c]:List Int).getD i.toNat 0:=fun i=>by
  unfold quoSS; rw [hs]; exact Int.mul_ediv_cancel_left _ (by omega)
 have hl:leftSS (a + b + c) [a,b,c]=0:=by
  unfold leftSS
  rw [show ([a,b,c]:List Int).length=3 from rfl,show rngS 3=[0,1,2] from by decide]
  simp only [List.map_cons,List.map_nil,hq]
  simp; omega
 congr 2
 unfold shareSS
 rw [hl,show ([a,b,c]:List Int).length=3 from rfl,show rngS 3=[0,1,2] from by decide]
 simp only [List.map_cons,List.map_nil,hq]
 simp
end
end Go.Proofs.YtlmibfohllgmeaaGreat
