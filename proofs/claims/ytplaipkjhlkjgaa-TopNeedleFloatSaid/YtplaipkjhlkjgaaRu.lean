/- A machine of plain data: drawing regions: which operations come ahead; the run in the order of the text, as records. No program is named here. -/
import Derived.Test.YtplaipkjhlkjgaaRt
namespace Go.Proofs.Ytplaipkjhlkjgaa
noncomputable section
open Go.RowKit
/-! ### What comes ahead in every order -/
def Mu (ops:Array Oper) (j m:Nat):Prop:=∀ i,m.testBit i=true→∀ listed:Array Bool,Uw ops listed→(∀ k ∈ Gs (Tg ops j),listed.getD k false=true)→listed.getD i false=true
theorem fold_bit {acc : List Nat} {i : Nat} : ∀ {ks : List Nat} {s : Nat}, (ks.foldl (fun s k => s ||| 2 ^ k ||| acc.getD k 0) s).testBit i = true → s.testBit i = true ∨ ∃ k ∈ ks, i = k ∨ (acc.getD k 0).testBit i = true
 | [],s,h=>.inl h
 | k :: ks,s,h=>by
  rcases fold_bit (ks:=ks) h with h1 | ⟨k',h1,h2⟩
  ·rw [Nat.testBit_or, Nat.testBit_or, Nat.testBit_two_pow] at h1
   simp only [Bool.or_eq_true,decide_eq_true_eq] at h1
   rcases h1 with (h1 | h1) | h1
   ·exact .inl h1
   ·exact .inr ⟨k,by simp,.inl h1.symm⟩
   ·exact .inr ⟨k,by simp,.inr h1⟩
  ·exact .inr ⟨k',by simp [h1],h2⟩
theorem mask_ok {ops:Array Oper} {acc:List Nat} (hl:acc.length < ops.size) (ha:∀ k,k < acc.length→Mu ops k (acc.getD k 0)):Mu ops acc.length (mask acc (Tg ops acc.length)):=fun i hi listed hc hd=>by
 rcases fold_bit hi with h | ⟨k,hk,rfl | h⟩
 ·simp at h
 ·exact hd _ hk
 ·rcases Nat.lt_or_ge k acc.length with h1 | h1
  ·exact ha k h1 i h listed hc (hc k (by omega) (hd k hk))
  ·rw [show acc.getD k 0=0 by simp [List.getD_eq_getElem?_getD,List.getElem?_eq_none h1]] at h; simp at h
theorem Cw {ops : Array Oper} : ∀ (l : List Oper) (acc : List Nat), ops.toList.drop acc.length = l → (∀ k, k < acc.length → Mu ops k (acc.getD k 0)) → ∀ j, j < l.length → Mu ops (acc.length + j) ((Rg l acc).getD j 0)
 | [],acc,_,_,j,hj=>by simp at hj
 | o :: l,acc,hd,ha,j,hj=>by
  have hlt:acc.length < ops.size:=by
   rcases Nat.lt_or_ge acc.length ops.size with h | h
   ·exact h
   ·rw [List.drop_of_length_le (by simpa using h)] at hd; cases hd
  have ho:Tg ops acc.length=o∧ops.toList.drop (acc.length + 1)=l:=by
   rw [List.drop_eq_getElem_cons (by simpa using hlt)] at hd
   injection hd with h1 h2
   refine ⟨?_,h2⟩
   have:=Ws hlt
   rw [Array.getElem?_eq_getElem hlt] at this
   rw [← h1]; simpa using (Option.some.inj this).symm
  have h0:=mask_ok hlt ha
  rw [ho.1] at h0
  cases j with
  | zero=>exact h0
  | succ j=>
   have hacc:(acc ++ [mask acc o]).length=acc.length + 1:=by simp
   have:=Cw (ops:=ops) l (acc ++ [mask acc o]) (by rw [hacc]; exact ho.2) (fun k hk=>by
    rw [hacc] at hk
    rcases Nat.lt_or_ge k acc.length with h1 | h1
    ·rw [List.getD_eq_getElem?_getD,List.getElem?_append_left h1,← List.getD_eq_getElem?_getD]; exact ha k h1
    ·have : k = acc.length := by omega
     subst this
     rw [List.getD_eq_getElem?_getD,List.getElem?_append_right (Nat.le_refl _)]; simpa using h0) j (by simpa using hj)
   rw [hacc] at this
   rw [show acc.length + (j + 1)=acc.length + 1 + j by omega]
   simpa [Rg] using this
theorem preds_ok {ops:Array Oper} {j:Nat} (hj:j < ops.size):Mu ops j ((Ck ops.toList).getD j 0):=by
 have:=Cw (ops:=ops) ops.toList [] (by simp) (fun k hk=>by simp at hk) j (by simpa using hj)
 rw [List.length_nil,Nat.zero_add] at this
 exact this

/-! ### The run in the order of the text -/
structure Vv (run : Cx → Oper → Gv → St → Option (List XO)) (cx : Cx) (all : List Oper) (n0 n1 : Nat) (r : Rc) : Prop where
 on:r.want=true→Xs all r.env r.o=some true∧run r.cx r.o r.env r.S=some [r.q]
 off:r.want=false→Xs all r.env r.o=some false∧r.q.v=.u∧r.q.S=r.S
 log:r.S.log=[]
 cut:r.cx.cut=r.S.n
 kp:Kp r.cx r.S r.q.S
 bnd:∀ b,r.S.get b ≠ none→b < r.S.n
 see:∀ b,r.cx.see b=true→cx.vis b=true
 lo:n0 ≤ r.S.n
 hi:r.q.S.n ≤ n1
 op:all[r.k]?=some r.o
theorem Vv.less {run:Cx→Oper→Gv→St→Option (List XO)} {cx:Cx} {all:List Oper} {n0 n1 n2:Nat} {r:Rc} (h:Vv run cx all n0 n1 r) (hn:n2 ≤ n0):Vv run cx all n2 n1 r:=
 ⟨h.on,h.off,h.log,h.cut,h.kp,h.bnd,h.see,Nat.le_trans hn h.lo,h.hi,h.op⟩
def Dom (ms:List Nat) (i j:Rc):Prop:=i.q.S.n ≤ j.S.n∧((ms.getD j.k 0).testBit i.k=true ∨ ((∀ b,j.cx.see b=true→i.tch b=false)∧∀ b,j.cx.wr b=true→i.sees b=false))
theorem at_put {env:Gv} {d:Option Nat} {v:AV}:Gv.at (Ih env d v)=Bi (Gv.at env) d v:=by
 cases d with
 | none=>rfl
 | some d=>
  funext t
  simp only [Ih,Bi,Gv.at,Mp.get_set]
  by_cases h:t=d <;> simp [h]
section
variable {cx:Cx} {run:Cx→Oper→Gv→St→Option (List XO)} {all:List Oper} {ms:List Nat}
theorem dom_dcx {ft:Nat→Bool} {rs:List Rc} {n k:Nat} {o:Oper} {w:Bool} {env:Gv} {S:St} {q:XO} {i:Rc} (hi:i ∈ rs) (hn:i.q.S.n ≤ S.n):Dom ms i { k:=k,o:=o,want:=w,cx:=dcx cx ft (ms.getD k 0) rs n,env:=env,S:=S,q:=q }:=by
 refine ⟨hn,?_⟩
 cases hb:(ms.getD k 0).testBit i.k with
 | true=>exact .inl rfl
 | false=>
  refine .inr ⟨fun b h=>?_,fun b h=>?_⟩
  ·simp only [dcx, Bool.and_eq_true, List.all_eq_true] at h
   have:=h.2 i hi
   rw [hb] at this; simpa using this
  ·simp only [dcx, Bool.and_eq_true, List.all_eq_true] at h
   have:=h.2 i hi
   rw [hb] at this; simpa using this
theorem Oo (hrun : ∀ cxk o env S q, run cxk o env S = some [q] → cxk.cut ≤ S.n → Kp cxk S q.S) : ∀ (l : List Oper) (rs : List Rc) (env : Gv) (S : St) (p : Gv × St), cx.cut ≤ S.n → (∀ b, S.get b ≠ none → b < S.n) → drw run cx all ms l rs env S = some p →
  (∀ r ∈ rs,r.q.S.n ≤ S.n)→all.drop rs.length=l →
  ∃ l2 : List Rc, RunH all.toArray (fun a h => a = Gv.at p.1 ∧ h = St.get p.2) l2 (Gv.at env) (St.get S) ∧ (∀ r ∈ l2, Vv run cx all S.n p.2.n r) ∧ l2.map (·.k) = List.range' rs.length l.length ∧ l2.Pairwise (Dom ms) ∧
   (∀ i ∈ rs,∀ j ∈ l2,Dom ms i j)∧∀ r ∈ l2,(∀ b ∈ r.q.S.log,b < cx.cut→b ∈ p.2.log)∧∀ b,b < r.q.S.n→r.q.S.get b=none→p.2.get b=none
 | [],rs,env,S,p,_,_,h,_,_=>by
  simp only [drw,Option.some.injEq] at h; subst h
  exact ⟨[],⟨rfl,rfl⟩,fun _ h=>(by cases h),rfl,.nil,fun _ _ _ h=>(by cases h),fun _ h=>(by cases h)⟩
 | o :: l,rs,env,S,p,hc,hb,h,hn,hd=>by
  have hlt:rs.length < all.length:=by
   rcases Nat.lt_or_ge rs.length all.length with h | h
   ·exact h
   ·rw [List.drop_of_length_le h] at hd; cases hd
  rw [List.drop_eq_getElem_cons hlt] at hd
  injection hd with hd1 hd2
  have hop:all[rs.length]?=some o:=by rw [List.getElem?_eq_getElem hlt,hd1]
  simp only [drw] at h
  split at h
  ·rename_i hw
   split at h
   ·rename_i q hq
    have kq:=hrun _ _ _ _ _ hq (Nat.le_refl _)
    have kb:=Kp.back hc kq
    generalize hr:({ k:=rs.length,o:=o,want:=true,cx:=dcx cx (foot env o) (ms.getD rs.length 0) rs S.n,env:=env,S:=S.bare,q:=q }:Rc)=r at h
    have hrest:=Ls hrun (Nat.le_trans hc kb.n) h
    have hrn:r.q.S.n=q.S.n:=by rw [← hr]
    obtain ⟨l2,h1,h2,h3,h4,h5,h6⟩:=Oo hrun l (r :: rs) _ _ _ (Nat.le_trans hc kb.n) (kb.bnd hb) h (fun i hi=>by
     rcases List.mem_cons.1 hi with rfl | hi
     ·rw [hrn]; exact Nat.le_refl _
     ·exact Nat.le_trans (hn i hi) kb.n) (by simpa using hd2)
    have hget:St.get (S.back cx q.S)=r.app (St.get S):=by
     funext b
     unfold Rc.app
     have htch:r.tch b=(q.S.log.contains b || (Nat.ble S.n b && Nat.blt b q.S.n)):=by rw [← hr]; rfl
     show q.S.get b=_
     cases ht:r.tch b with
     | true=>rw [if_pos rfl,← hr]
     | false=>
      rw [if_neg (by simp)]
      rw [htch] at ht
      simp only [Bool.or_eq_false_iff,Bool.and_eq_false_iff] at ht
      rcases Nat.lt_or_ge b S.n with h7 | h7
      ·exact kq.keep b h7 (by simpa using ht.1)
      ·have h8:¬ b < q.S.n:=fun h9=>by
        rcases ht.2 with h10 | h10
        ·rw [Nat.ble_eq_true_of_le h7] at h10; cases h10
        ·have : Nat.blt b q.S.n = true := Nat.ble_eq_true_of_le h9
         rw [this] at h10; cases h10
       have h9:S.get b=none:=by
        cases h10:S.get b with
        | none=>rfl
        | some B=>have:=hb b (by rw [h10]; simp); omega
       have h11:q.S.get b=none:=by
        cases h10:q.S.get b with
        | none=>rfl
        | some B=>have:=(kb.bnd hb) b (by show q.S.get b ≠ none; rw [h10]; simp); exact absurd this h8
       rw [h9,h11]
    have hgood:Vv run cx all S.n p.2.n r:=by
     rw [← hr]
     refine ⟨fun _=>⟨hw,hq⟩,fun h=>(by cases h),rfl,rfl,kq,hb,fun b h=>?_,Nat.le_refl _,hrest.n,hop⟩
     simp only [dcx,Bool.and_eq_true] at h; exact h.1.1
    refine ⟨r :: l2,⟨?_,?_⟩,fun i hi=>?_,?_,List.pairwise_cons.2 ⟨fun j hj=>h5 r (by simp) j hj,h4⟩,fun i hi j hj=>?_,fun i hi=>?_⟩
    ·rw [← hr]; exact ⟨fun _ _=>rfl,fun _ _=>rfl⟩
    ·rw [at_put, hget] at h1
     have:Bi (Gv.at env) r.o.dst r.q.v=Bi (Gv.at env) o.dst q.v:=by rw [← hr]
     rw [this]; exact h1
    ·rcases List.mem_cons.1 hi with rfl | hi
     ·exact hgood
     ·exact (h2 i hi).less kb.n
    ·rw [List.map_cons,h3,← hr]; simp [List.range'_succ]
    ·rcases List.mem_cons.1 hj with rfl | hj
     ·rw [← hr]; exact dom_dcx hi (hn i hi)
     ·exact h5 i (by simp [hi]) j hj
    ·rcases List.mem_cons.1 hi with rfl | hi
     ·refine ⟨fun b hb hcut => ?_, fun b hb h0 => ?_⟩
      ·rw [← hr] at hb
       exact hrest.log b (Rh.2 (.inr ⟨hb,hcut⟩))
      ·rw [← hr] at hb h0
       exact hrest.dead b hb h0
     ·exact h6 i hi
   ·cases h
  ·rename_i hw
   generalize hr:({ k:=rs.length,o:=o,want:=false,cx:=⟨fun _=>false,fun _=>false,S.n⟩,env:=env,S:=S.bare,q:=xo1 S.bare .u }:Rc)=r at h
   have hrest:=Ls hrun hc h
   obtain ⟨l2,h1,h2,h3,h4,h5,h6⟩:=Oo hrun l (r :: rs) _ _ _ hc hb h (fun i hi=>by
    rcases List.mem_cons.1 hi with rfl | hi
    ·rw [← hr]; exact Nat.le_refl _
    ·exact hn i hi) (by simpa using hd2)
   have htch:∀ b,r.tch b=false:=fun b=>by
    rw [← hr]
    show (([]:List Nat).contains b || (Nat.ble S.n b && Nat.blt b S.n))=false
    cases h7:Nat.ble S.n b with
    | false=>rfl
    | true=>
     cases h8:Nat.blt b S.n with
     | false=>rfl
     | true=>
      have h9:=Nat.le_of_ble_eq_true h7
      have h10:b < S.n:=Nat.le_of_ble_eq_true h8
      omega
   have hget:St.get S=r.app (St.get S):=by
    funext b; unfold Rc.app; rw [if_neg (by rw [htch]; simp)]
   have hgood:Vv run cx all S.n p.2.n r:=by
    rw [← hr]
    exact ⟨fun h=>(by cases h),fun _=>⟨hw,rfl,rfl⟩,rfl,rfl,Kp.refl,hb,fun b h=>(by cases h),Nat.le_refl _,hrest.n,hop⟩
   refine ⟨r :: l2,⟨?_,?_⟩,fun i hi=>?_,?_,List.pairwise_cons.2 ⟨fun j hj=>h5 r (by simp) j hj,h4⟩,fun i hi j hj=>?_,fun i hi=>?_⟩
   ·rw [← hr]; exact ⟨fun _ _=>rfl,fun _ _=>rfl⟩
   ·rw [at_put] at h1
    rw [← hget]
    have:Bi (Gv.at env) r.o.dst r.q.v=Bi (Gv.at env) o.dst .u:=by rw [← hr]; rfl
    rw [this]; exact h1
   ·rcases List.mem_cons.1 hi with rfl | hi
    ·exact hgood
    ·exact h2 i hi
   ·rw [List.map_cons,h3,← hr]; simp [List.range'_succ]
   ·rcases List.mem_cons.1 hj with rfl | hj
    ·rw [← hr]; exact ⟨hn i hi,.inr ⟨fun b h=>(by cases h),fun b h=>(by cases h)⟩⟩
    ·exact h5 i (by simp [hi]) j hj
   ·rcases List.mem_cons.1 hi with rfl | hi
    ·refine ⟨fun b hb _ => ?_, fun b hb h0 => ?_⟩
     ·rw [← hr] at hb; cases hb
     ·rw [← hr] at hb h0
      exact hrest.dead b hb h0
    ·exact h6 i hi
  ·cases h
theorem ind_of {ops:Array Oper} {n0 n1:Nat} {i j:Rc} (gi:Vv run cx all n0 n1 i) (gj:Vv run cx all n0 n1 j) (hd:Dom ms i j) (hm:¬ (ms.getD j.k 0).testBit i.k=true) (ha:Ha ops i.o j.o=true):Ind ops i j:=by
 obtain ⟨hn,hu⟩:=hd
 obtain ⟨hu1,hu2⟩:=hu.resolve_left hm
 have tchj:∀ b,j.tch b=true→(b < j.S.n∧j.cx.see b=true∧j.cx.wr b=true) ∨ j.S.n ≤ b:=fun b hb=>by
  simp only [Rc.tch,Bool.or_eq_true,Bool.and_eq_true] at hb
  rcases hb with hb | hb
  ·rcases gj.kp.wr b (by simpa using hb) with h1 | h1
   ·rw [gj.log] at h1; cases h1
   ·left; rw [gj.cut] at h1; exact h1
  ·exact .inr (Nat.le_of_ble_eq_true hb.1)
 have tchi:∀ b,i.tch b=true→b < i.q.S.n:=fun b hb=>by
  simp only [Rc.tch,Bool.or_eq_true,Bool.and_eq_true] at hb
  rcases hb with hb | hb
  ·rcases gi.kp.wr b (by simpa using hb) with h1 | h1
   ·rw [gi.log] at h1; cases h1
   ·rw [gi.cut] at h1; exact Nat.lt_of_lt_of_le h1.1 gi.kp.n
  ·exact Nat.le_of_ble_eq_true hb.2
 simp only [Ha,Bool.and_eq_true] at ha
 obtain ⟨⟨ha1,ha2⟩,ha3⟩:=ha
 refine ⟨ha1,ha2,fun d hdd=>?_,fun b h1 h2=>?_,fun b h1 h2=>?_,fun b h1 h2=>?_⟩
 ·rw [hdd] at ha3; simpa using ha3
 ·rcases tchj b h2 with h3 | h3
  ·have:=hu1 b h3.2.1; rw [h1] at this; cases this
  ·have:=tchi b h1; omega
 ·simp only [Rc.sees, Bool.and_eq_true] at h2
  have:=hu1 b h2.2; rw [h1] at this; cases this
 ·rcases tchj b h1 with h3 | h3
  ·have:=hu2 b h3.2.2; rw [h2] at this; cases this
  ·simp only [Rc.sees, Bool.and_eq_true] at h2
   have h4:b < i.S.n:=Nat.le_of_ble_eq_true h2.1
   have:=gi.kp.n
   omega
end
end
end Go.Proofs.Ytplaipkjhlkjgaa
