/- A machine of plain data: drawing regions, in plain data: an operation from the middle may be taken first. No program is named here. -/
import Derived.Test.YtplaipkjhlkjgaaRn
namespace Go.Proofs.Ytplaipkjhlkjgaa
noncomputable section
open Go.RowKit
section
variable {P:Program} {tab:Tab} {cx:Cx} {S S':St}
theorem kp_cat {α:Type} {f:α→Option (List XO)} {l:List α} {outs:List XO} (h:Ca f l=some outs) (hf:∀ o ∈ l,∀ a,f o=some a→∀ q ∈ a,Kp cx S q.S):∀ q ∈ outs,Kp cx S q.S:=fun q hq=>by
 obtain ⟨o,h3,a,h4,h5⟩:=(Ks h).2 q hq; exact hf o h3 a h4 q h5
theorem Vk {x:Option (List XO)} {f:XO→Option (List XO)} {outs:List XO} (h:Xh x f=some outs) (hx:∀ l,x=some l→∀ r ∈ l,Kp cx S r.S) (hf:∀ r a,Kp cx S r.S→f r=some a→∀ q ∈ a,Kp cx r.S q.S):∀ q ∈ outs,Kp cx S q.S:=by
 obtain ⟨l,h1,h2⟩:=Hg h
 exact kp_cat h2 fun r hr a ha q hq=>(hx l h1 r hr).trans (hf r a (hx l h1 r hr) ha q hq)
theorem Yx {a:List XO} {r:XO} (h:some [r]=some a) (k:Kp cx S r.S):∀ q ∈ a,Kp cx S q.S:=by
 simp only [Option.some.injEq] at h; subst h; intro q hq; rw [List.mem_singleton.1 hq]; exact k
theorem Ee : ∀ {ms : List Nat} {S S' : St}, Jg cx S ms = some S' → Kp cx S S'
 | [],S,S',h=>by simp only [Jg,Option.some.injEq] at h; subst h; exact Kp.refl
 | d :: ms,S,S',h=>by
  simp only [Jg] at h
  split at h
  ·rename_i h0
   split at h
   ·rename_i S1 h1; exact (Kp.put h1 h0).trans (Ee h)
   ·cases h
  ·cases h
theorem endLp_kp {l:Nat} {env:Gv} {ms:List Nat} {a:List XO} (h:Cl cx l env ms S=some a):∀ q ∈ a,Kp cx S q.S:=by
 unfold Cl at h
 split at h
 ·rename_i h0
  split at h
  ·cases h
  ·split at h
   ·rename_i S2 h2
    split at h <;> first
     | (cases h; done)
     | exact Yx h (Kp.put h2 h0)
   ·cases h
 ·cases h
theorem endRd_kp {l:Nat} {x:AX} {a:List XO} (h:Ld cx l x S=some a):∀ q ∈ a,Kp cx S q.S:=by
 unfold Ld at h
 split at h
 ·rename_i h0
  split at h
  ·rename_i S2 h2; exact Yx h (Kp.put h2 h0)
  ·cases h
 ·cases h
theorem busyLp_kp {l:Nat} (h:Bq cx l S=some S'):Kp cx S S':=by
 unfold Bq at h
 split at h
 ·rename_i h0; exact Kp.put h h0
 ·cases h
theorem Rh {c b : Nat} {l : List Nat} : ∀ {bs : List Nat}, b ∈ mrg c l bs ↔ b ∈ l ∨ (b ∈ bs ∧ b < c)
 | []=>by simp [mrg]
 | x :: bs=>by
  have ih:=Rh (c:=c) (b:=b) (l:=l) (bs:=bs)
  unfold mrg
  cases h:(Nat.blt x c && !(l.contains x)) with
  | true=>
   simp only [Bool.and_eq_true] at h
   have hx:x < c:=Nat.le_of_ble_eq_true h.1
   simp only [cond_true,List.mem_cons,ih]
   constructor
   ·rintro (rfl | h1 | h1)
    ·exact .inr ⟨.inl rfl,hx⟩
    ·exact .inl h1
    ·exact .inr ⟨.inr h1.1,h1.2⟩
   ·rintro (h1 | ⟨rfl | h1, h2⟩)
    ·exact .inr (.inl h1)
    ·exact .inl rfl
    ·exact .inr (.inr ⟨h1,h2⟩)
  | false=>
   simp only [cond_false,ih,List.mem_cons]
   constructor
   ·rintro (h1 | h1)
    ·exact .inl h1
    ·exact .inr ⟨.inr h1.1,h1.2⟩
   ·rintro (h1 | ⟨rfl | h1, h2⟩)
    ·exact .inl h1
    ·have hb : Nat.blt b c = true := Nat.ble_eq_true_of_le h2
     rw [hb] at h; simp at h; exact .inl h
    ·exact .inr ⟨h1,h2⟩
theorem Kp.back {ft:Nat→Bool} {m:Nat} {rs:List Rc} {T:St} (hc:cx.cut ≤ S.n) (h:Kp (dcx cx ft m rs S.n) S.bare T):Kp cx S (S.back cx T):=by
 have hcut:∀ b,b < cx.cut→b < (dcx cx ft m rs S.n).cut:=fun b hb=>by show b < S.n; omega
 refine ⟨h.n,fun b hb hn=>?_,fun b hb=>Rh.2 (.inl hb),fun b hb=>?_,fun hb=>h.bnd hb,fun b hb h0=>h.dead b hb h0,fun b hb=>?_⟩
 ·exact h.keep b (hcut b hb) fun h1=>hn (Rh.2 (.inr ⟨h1,hb⟩))
 ·rcases Rh.1 hb with h1 | ⟨h1, h2⟩
  ·exact .inl h1
  ·rcases h.wr b h1 with h3 | ⟨_, _, h3⟩
   ·cases h3
   ·right
    have h4:cx.mod b=true:=by simp only [dcx,Bool.and_eq_true] at h3; exact h3.1
    unfold Cx.mod at h4
    have:Nat.ble cx.cut b=false:=by
     cases h5:Nat.ble cx.cut b
     ·rfl
     ·have:=Nat.le_of_ble_eq_true h5; omega
    rw [this] at h4; simp at h4; exact ⟨h2,h4.1,h4.2⟩
 ·rcases Rh.1 hb with h1 | ⟨h1, _⟩
  ·exact .inl h1
  ·rcases h.live b h1 with h3 | h3
   ·cases h3
   ·exact .inr h3
theorem Ls {run : Cx → Oper → Gv → St → Option (List XO)} {all : List Oper} {ms : List Nat} (hrun : ∀ cxk o env S q, run cxk o env S = some [q] → cxk.cut ≤ S.n → Kp cxk S q.S) : ∀ {l : List Oper} {rs : List Rc} {env : Gv} {S : St} {p : Gv × St}, cx.cut ≤ S.n → drw run cx all ms l rs env S = some p → Kp cx S p.2
 | [],rs,env,S,p,_,h=>by simp only [drw,Option.some.injEq] at h; subst h; exact Kp.refl
 | o :: l,rs,env,S,p,hc,h=>by
  simp only [drw] at h
  split at h
  ·split at h
   ·rename_i q hq
    have h1:=Kp.back hc (hrun _ _ _ _ _ hq (Nat.le_refl _))
    exact h1.trans (Ls hrun (Nat.le_trans hc h1.n) h)
   ·cases h
  ·exact Ls hrun hc h
  ·cases h
theorem go_kp:∀ (n:Nat) (cx:Cx) (tk:Tk) (S:St) (outs:List XO),go P tab n cx tk S=some outs→cx.cut ≤ S.n→∀ q ∈ outs,Kp cx S q.S:=by
 intro n
 induction n with
 | zero=>intro cx tk S outs h; rw [go_z] at h; cases h
 | succ n ih=>
  intro cx tk S outs h hc
  cases tk with
  | o o env=>
   simp only [Xc,goB,goO,Dt] at h
   split at h
   ·rename_i r rs hst
    refine kp_cat h fun r0 hr0 a ha=>?_
    have hk:=astep_kp hc hst r0 hr0
    cases r0 with
    | v x S'=>
     simp only [goA] at ha
     exact Yx (Lf ha).symm.symm hk
    | call f args=>exact ih _ _ _ _ ha hc
    | rnd l args=>exact ih _ _ _ _ ha hc
   ·cases h
  | l all rest env=>
   cases rest with
   | nil=>simp only [Xc,goB,goL] at h; exact Yx h Kp.refl
   | cons o rest=>
    simp only [Xc,goB,goL,goL1,Ut,Jz,Np] at h
    split at h
    ·exact Vk h (fun l hl=>ih _ _ _ _ hl hc) fun r a k ha=>ih _ _ _ _ ha (Nat.le_trans hc k.n)
    ·exact ih _ _ _ _ h hc
    ·cases h
  | c inr N c env ms=>
   simp only [Xc,goB,goC,gSeq,gCond,gReg,gRng] at h
   split at h
   ·exact Yx h Kp.refl
   ·exact Yx h Kp.refl
   ·exact Yx h Kp.refl
   ·refine Vk h (fun l hl => ih _ _ _ _ hl hc) fun r a k ha => ?_
    split at ha
    ·exact ih _ _ _ _ ha (Nat.le_trans hc k.n)
    ·exact Yx ha Kp.refl
   ·split at h
    ·exact ih _ _ _ _ h hc
    ·cases h
   ·exact Vk h (fun l hl=>ih _ _ _ _ hl hc) fun r a k ha=>Yx ha Kp.refl
   ·exact ih _ _ _ _ h hc
   ·rename_i draw
    cases draw with
    | true=>
     simp only [cond_true] at h
     unfold drwX at h
     split at h
     ·rename_i p hp
      exact Yx h (Ls (fun cxk o env S q hq hc=>ih _ _ _ _ hq hc q (by simp)) hc hp)
     ·cases h
    | false=>
     simp only [cond_false] at h
     exact Vk h (fun l hl=>ih _ _ _ _ hl hc) fun r a k ha=>Yx ha Kp.refl
   ·cases inr with
    | true=>simp at h
    | false=>
     simp only [cond_false] at h
     split at h
     ·have h := Lf h
      have k1:Kp cx S (S.new .dfr):=Kp.new hc _
      refine Vk h (fun l hl q hq=>?_) fun r a k ha=>endLp_kp ha
      refine (k1.trans (Kp.new (Nat.le_trans hc k1.n) _)).trans (ih _ _ _ _ hl ?_ q hq)
      show cx.cut ≤ S.n + 1 + 1; omega
     ·cases h
   ·cases h
  | lp inr N a env ms=>
   simp only [Xc,goB,goLp] at h
   refine Vk h (fun l hl=>ih _ _ _ _ hl hc) fun r a k ha=>?_
   split at ha
   ·exact ih _ _ _ _ ha (Nat.le_trans hc k.n)
   ·exact Yx ha Kp.refl
  | f f args=>
   simp only [Xc,goB,goF] at h
   split at h
   ·have h := Lf h
    refine Vk h (fun l hl=>ih _ _ _ _ hl hc) fun r a k ha=>?_
    split at ha
    ·cases ha
    ·split at ha
     ·rename_i S2 h2
      split at ha
      ·exact Yx ha (Ee h2)
      ·cases ha
     ·cases ha
   ·cases h
  | r l args=>
   simp only [Xc,goB,goR] at h
   split at h
   ·have h := Lf h
    refine Vk h (fun l hl=>ih _ _ _ _ hl hc) fun r a k ha=>?_
    split at ha
    ·split at ha
     ·rename_i S1 h1
      have k1:=busyLp_kp h1
      exact fun q hq=>k1.trans (Vk ha (fun l hl=>ih _ _ _ _ hl (Nat.le_trans hc (Nat.le_trans k.n k1.n))) (fun r2 b k2 hb=>endRd_kp hb) q hq)
     ·cases ha
    ·cases ha
   ·cases h

/-! ### A run of records -/
def Bi (a : Nat → AV) (d : Option Tmp) (v : AV) : Nat → AV := match d with
 | none=>a
 | some d=>fun t=>if t=d then v else a t
def Rc.app (r:Rc) (h:Nat→Option Blk):Nat→Option Blk:=fun b=>if r.tch b=true then r.q.S.get b else h b
def OkR (ops:Array Oper) (r:Rc) (a:Nat→AV) (h:Nat→Option Blk):Prop:=(∀ t ∈ r.o.looksAt ops,a t=r.env.at t)∧∀ b,r.sees b=true→h b=r.S.get b
def RunH (ops : Array Oper) (F : (Nat → AV) → (Nat → Option Blk) → Prop) : List Rc → (Nat → AV) → (Nat → Option Blk) → Prop
 | [],a,h=>F a h
 | r :: l,a,h=>OkR ops r a h∧RunH ops F l (Bi a r.o.dst r.q.v) (r.app h)
structure Ind (ops : Array Oper) (i j : Rc) : Prop where
 ci:Wx ops i.o j.o.dst=true
 cj:Wx ops j.o i.o.dst=true
 dd:∀ d,i.o.dst=some d→j.o.dst ≠ some d
 tt:∀ b,i.tch b=true→j.tch b=true→False
 ij:∀ b,i.tch b=true→j.sees b=true→False
 ji:∀ b,j.tch b=true→i.sees b=true→False
theorem Mj {ops:Array Oper} {o:Oper} {a:Nat→AV} {d:Option Tmp} {v:AV} (hc:Wx ops o d=true):∀ t ∈ o.looksAt ops,Bi a d v t=a t:=fun t ht=>by
 cases d with
 | none=>rfl
 | some d=>
  simp only [Bi]
  rw [if_neg]
  intro he; subst he
  simp [Wx,ht] at hc
theorem updA_comm {a:Nat→AV} {x y:Option Tmp} {a1 b1:AV} (h:∀ d,x=some d→y ≠ some d):Bi (Bi a x a1) y b1=Bi (Bi a y b1) x a1:=by
 cases x with
 | none=>rfl
 | some d => cases y with
  | none=>rfl
  | some e=>
   have hne:e ≠ d:=fun he=>h d rfl (by rw [he])
   funext t
   simp only [Bi]
   by_cases h1:t=d <;> by_cases h2:t=e <;> simp_all
theorem run_take {ops : Array Oper} {F : (Nat → AV) → (Nat → Option Blk) → Prop} {j : Rc} {l2 : List Rc} : ∀ (l1 : List Rc) (a : Nat → AV) (h : Nat → Option Blk), (∀ i ∈ l1, Ind ops i j) → RunH ops F (l1 ++ j :: l2) a h → OkR ops j a h ∧ RunH ops F (l1 ++ l2) (Bi a j.o.dst j.q.v) (j.app h)
 | [],a,h,_,hr=>hr
 | i :: l1,a,h,hi,hr=>by
  have hd:=hi i (by simp)
  obtain ⟨h1,h2⟩:=hr
  obtain ⟨⟨h3,h4⟩,h5⟩:=run_take l1 _ _ (fun k hk=>hi k (by simp [hk])) h2
  refine ⟨⟨fun t ht=>(Mj hd.cj t ht).symm.trans (h3 t ht),fun b hb=>?_⟩,⟨fun t ht=>(Mj hd.ci t ht).trans (h1.1 t ht),fun b hb=>?_⟩,?_⟩
  ·have := h4 b hb
   unfold Rc.app at this
   rwa [if_neg (fun h6=>hd.ij b h6 hb)] at this
  ·unfold Rc.app
   rw [if_neg (fun h6=>hd.ji b h6 hb)]; exact h1.2 b hb
  ·rw [← updA_comm hd.dd]
   have:i.app (j.app h)=j.app (i.app h):=by
    funext b
    unfold Rc.app
    by_cases h6:i.tch b=true
    ·rw [if_pos h6,if_neg (fun h7=>hd.tt b h6 h7),if_pos h6]
    ·rw [if_neg h6]
     by_cases h7:j.tch b=true
     ·rw [if_pos h7,if_pos h7]
     ·rw [if_neg h7,if_neg h7,if_neg h6]
   show RunH ops F (l1 ++ l2) _ (i.app (j.app h))
   rw [this]; exact h5
end
end
end Go.Proofs.Ytplaipkjhlkjgaa
