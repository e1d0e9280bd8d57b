/- A machine of plain data: drawing regions, in plain data: an operation from the middle may be taken first. No program is named here. -/
import Derived.Test.YtkmbkaoolacofaaGreatRn
namespace Go.Proofs.YtkmbkaoolacofaaGreat
noncomputable section
open Go.RowKit
section
variable {P : Program} {tab : Tab} {cx : Cx} {S S' : St}
theorem kp_cat {α : Type} {f : α → Option (List XO)} {l : List α} {outs : List XO} (h : catO f l = some outs) (hf : ∀ o ∈ l, ∀ a, f o = some a → ∀ q ∈ a, Kp cx S q.S) : ∀ q ∈ outs, Kp cx S q.S := fun q hq => by
 obtain ⟨o, h3, a, h4, h5⟩ := (catO_get h).2 q hq; exact hf o h3 a h4 q h5
theorem kp_bind {x : Option (List XO)} {f : XO → Option (List XO)} {outs : List XO} (h : bindO x f = some outs) (hx : ∀ l, x = some l → ∀ r ∈ l, Kp cx S r.S) (hf : ∀ r a, Kp cx S r.S → f r = some a → ∀ q ∈ a, Kp cx r.S q.S) : ∀ q ∈ outs, Kp cx S q.S := by
 obtain ⟨l, h1, h2⟩ := bindO_get h
 exact kp_cat h2 fun r hr a ha q hq => (hx l h1 r hr).trans (hf r a (hx l h1 r hr) ha q hq)
theorem kp_one {a : List XO} {r : XO} (h : some [r] = some a) (k : Kp cx S r.S) : ∀ q ∈ a, Kp cx S q.S := by
 simp only [Option.some.injEq] at h; subst h; intro q hq; rw [List.mem_singleton.1 hq]; exact k
theorem takeMs_kp : ∀ {ms : List Nat} {S S' : St}, takeMs cx S ms = some S' → Kp cx S S'
 | [], S, S', h => by simp only [takeMs, Option.some.injEq] at h; subst h; exact Kp.refl
 | d :: ms, S, S', h => by
  simp only [takeMs] at h
  split at h
  ·rename_i h0
   split at h
   ·rename_i S1 h1; exact (Kp.put h1 h0).trans (takeMs_kp h)
   ·cases h
  ·cases h
theorem endLp_kp {l : Nat} {env : AEnv} {ms : List Nat} {a : List XO} (h : endLp cx l env ms S = some a) : ∀ q ∈ a, Kp cx S q.S := by
 unfold endLp at h
 split at h
 ·rename_i h0
  split at h
  ·cases h
  ·split at h
   ·rename_i S2 h2
    split at h <;> first
     | (cases h; done)
     | exact kp_one h (Kp.put h2 h0)
   ·cases h
 ·cases h
theorem endRd_kp {l : Nat} {x : AX} {a : List XO} (h : endRd cx l x S = some a) : ∀ q ∈ a, Kp cx S q.S := by
 unfold endRd at h
 split at h
 ·rename_i h0
  split at h
  ·rename_i S2 h2; exact kp_one h (Kp.put h2 h0)
  ·cases h
 ·cases h
theorem busyLp_kp {l : Nat} (h : busyLp cx l S = some S') : Kp cx S S' := by
 unfold busyLp at h
 split at h
 ·rename_i h0; exact Kp.put h h0
 ·cases h
theorem mem_mrg {c b : Nat} {l : List Nat} : ∀ {bs : List Nat}, b ∈ mrg c l bs ↔ b ∈ l ∨ (b ∈ bs ∧ b < c)
 | [] => by simp [mrg]
 | x :: bs => by
  have ih := mem_mrg (c := c) (b := b) (l := l) (bs := bs)
  unfold mrg
  cases h : (Nat.blt x c && !(l.contains x)) with
  | true =>
   simp only [Bool.and_eq_true] at h
   have hx : x < c := Nat.le_of_ble_eq_true h.1
   simp only [cond_true, List.mem_cons, ih]
   constructor
   ·rintro (rfl | h1 | h1)
    ·exact .inr ⟨.inl rfl, hx⟩
    ·exact .inl h1
    ·exact .inr ⟨.inr h1.1, h1.2⟩
   ·rintro (h1 | ⟨rfl | h1, h2⟩)
    ·exact .inr (.inl h1)
    ·exact .inl rfl
    ·exact .inr (.inr ⟨h1, h2⟩)
  | false =>
   simp only [cond_false, ih, List.mem_cons]
   constructor
   ·rintro (h1 | h1)
    ·exact .inl h1
    ·exact .inr ⟨.inr h1.1, h1.2⟩
   ·rintro (h1 | ⟨rfl | h1, h2⟩)
    ·exact .inl h1
    ·have hb : Nat.blt b c = true := Nat.ble_eq_true_of_le h2
     rw [hb] at h; simp at h; exact .inl h
    ·exact .inr ⟨h1, h2⟩
theorem Kp.back {ft : Nat → Bool} {m : Nat} {rs : List Rc} {T : St} (hc : cx.cut ≤ S.n) (h : Kp (dcx cx ft m rs S.n) S.bare T) : Kp cx S (S.back cx T) := by
 have hcut : ∀ b, b < cx.cut → b < (dcx cx ft m rs S.n).cut := fun b hb => by show b < S.n; omega
 refine ⟨h.n, fun b hb hn => ?_, fun b hb => mem_mrg.2 (.inl hb), fun b hb => ?_, fun hb => h.bnd hb, fun b hb h0 => h.dead b hb h0, fun b hb => ?_⟩
 ·exact h.keep b (hcut b hb) fun h1 => hn (mem_mrg.2 (.inr ⟨h1, hb⟩))
 ·rcases mem_mrg.1 hb with h1 | ⟨h1, h2⟩
  ·exact .inl h1
  ·rcases h.wr b h1 with h3 | ⟨_, _, h3⟩
   ·cases h3
   ·right
    have h4 : cx.mod b = true := by simp only [dcx, Bool.and_eq_true] at h3; exact h3.1
    unfold Cx.mod at h4
    have : Nat.ble cx.cut b = false := by
     cases h5 : Nat.ble cx.cut b
     ·rfl
     ·have := Nat.le_of_ble_eq_true h5; omega
    rw [this] at h4; simp at h4; exact ⟨h2, h4.1, h4.2⟩
 ·rcases mem_mrg.1 hb with h1 | ⟨h1, _⟩
  ·exact .inl h1
  ·rcases h.live b h1 with h3 | h3
   ·cases h3
   ·exact .inr h3
theorem drw_kp {run : Cx → Oper → AEnv → St → Option (List XO)} {all : List Oper} {ms : List Nat} (hrun : ∀ cxk o env S q, run cxk o env S = some [q] → cxk.cut ≤ S.n → Kp cxk S q.S) : ∀ {l : List Oper} {rs : List Rc} {env : AEnv} {S : St} {p : AEnv × St}, cx.cut ≤ S.n → drw run cx all ms l rs env S = some p → Kp cx S p.2
 | [], rs, env, S, p, _, h => by simp only [drw, Option.some.injEq] at h; subst h; exact Kp.refl
 | o :: l, rs, env, S, p, hc, h => by
  simp only [drw] at h
  split at h
  ·split at h
   ·rename_i q hq
    have h1 := Kp.back hc (hrun _ _ _ _ _ hq (Nat.le_refl _))
    exact h1.trans (drw_kp hrun (Nat.le_trans hc h1.n) h)
   ·cases h
  ·exact drw_kp hrun hc h
  ·cases h
theorem go_kp : ∀ (n : Nat) (cx : Cx) (tk : Tk) (S : St) (outs : List XO), go P tab n cx tk S = some outs → cx.cut ≤ S.n → ∀ q ∈ outs, Kp cx S q.S := by
 intro n
 induction n with
 | zero => intro cx tk S outs h; rw [go_z] at h; cases h
 | succ n ih =>
  intro cx tk S outs h hc
  cases tk with
  | o o env =>
   simp only [go_s, goB, goO, catA_eq] at h
   split at h
   ·rename_i r rs hst
    refine kp_cat h fun r0 hr0 a ha => ?_
    have hk := astep_kp hc hst r0 hr0
    cases r0 with
    | v x S' =>
     simp only [goA] at ha
     exact kp_one (bifS ha).symm.symm hk
    | call f args => exact ih _ _ _ _ ha hc
    | rnd l args => exact ih _ _ _ _ ha hc
   ·cases h
  | l all rest env =>
   cases rest with
   | nil => simp only [go_s, goB, goL] at h; exact kp_one h Kp.refl
   | cons o rest =>
    simp only [go_s, goB, goL, goL1, fAV_eq, fSt_eq, fMp_eq] at h
    split at h
    ·exact kp_bind h (fun l hl => ih _ _ _ _ hl hc) fun r a k ha => ih _ _ _ _ ha (Nat.le_trans hc k.n)
    ·exact ih _ _ _ _ h hc
    ·cases h
  | c inr N c env ms =>
   simp only [go_s, goB, goC, gSeq, gCond, gReg, gRng] at h
   split at h
   ·exact kp_one h Kp.refl
   ·exact kp_one h Kp.refl
   ·exact kp_one h Kp.refl
   ·refine kp_bind h (fun l hl => ih _ _ _ _ hl hc) fun r a k ha => ?_
    split at ha
    ·exact ih _ _ _ _ ha (Nat.le_trans hc k.n)
    ·exact kp_one ha Kp.refl
   ·split at h
    ·exact ih _ _ _ _ h hc
    ·cases h
   ·exact kp_bind h (fun l hl => ih _ _ _ _ hl hc) fun r a k ha => kp_one ha Kp.refl
   ·exact ih _ _ _ _ h hc
   ·rename_i draw
    cases draw with
    | true =>
     simp only [cond_true] at h
     unfold drwX at h
     split at h
     ·rename_i p hp
      exact kp_one h (drw_kp (fun cxk o env S q hq hc => ih _ _ _ _ hq hc q (by simp)) hc hp)
     ·cases h
    | false =>
     simp only [cond_false] at h
     exact kp_bind h (fun l hl => ih _ _ _ _ hl hc) fun r a k ha => kp_one ha Kp.refl
   ·cases inr with
    | true => simp at h
    | false =>
     simp only [cond_false] at h
     split at h
     ·have h := bifS h
      have k1 : Kp cx S (S.new .dfr) := Kp.new hc _
      refine kp_bind h (fun l hl q hq => ?_) fun r a k ha => endLp_kp ha
      refine (k1.trans (Kp.new (Nat.le_trans hc k1.n) _)).trans (ih _ _ _ _ hl ?_ q hq)
      show cx.cut ≤ S.n + 1 + 1; omega
     ·cases h
   ·cases h
  | lp inr N a env ms =>
   simp only [go_s, goB, goLp] at h
   refine kp_bind h (fun l hl => ih _ _ _ _ hl hc) fun r a k ha => ?_
   split at ha
   ·exact ih _ _ _ _ ha (Nat.le_trans hc k.n)
   ·exact kp_one ha Kp.refl
  | f f args =>
   simp only [go_s, goB, goF] at h
   split at h
   ·have h := bifS h
    refine kp_bind h (fun l hl => ih _ _ _ _ hl hc) fun r a k ha => ?_
    split at ha
    ·cases ha
    ·split at ha
     ·rename_i S2 h2
      split at ha
      ·exact kp_one ha (takeMs_kp h2)
      ·cases ha
     ·cases ha
   ·cases h
  | r l args =>
   simp only [go_s, goB, goR] at h
   split at h
   ·have h := bifS h
    refine kp_bind h (fun l hl => ih _ _ _ _ hl hc) fun r a k ha => ?_
    split at ha
    ·split at ha
     ·rename_i S1 h1
      have k1 := busyLp_kp h1
      exact fun q hq => k1.trans (kp_bind ha (fun l hl => ih _ _ _ _ hl (Nat.le_trans hc (Nat.le_trans k.n k1.n))) (fun r2 b k2 hb => endRd_kp hb) q hq)
     ·cases ha
    ·cases ha
   ·cases h

/-! ### A run of records -/
def updA (a : Nat → AV) (d : Option Tmp) (v : AV) : Nat → AV := match d with
 | none => a
 | some d => fun t => if t = d then v else a t
def Rc.app (r : Rc) (h : Nat → Option Blk) : Nat → Option Blk := fun b => if r.tch b = true then r.q.S.get b else h b
def OkR (ops : Array Oper) (r : Rc) (a : Nat → AV) (h : Nat → Option Blk) : Prop := (∀ t ∈ r.o.looksAt ops, a t = r.env.at t) ∧ ∀ b, r.sees b = true → h b = r.S.get b
def RunH (ops : Array Oper) (F : (Nat → AV) → (Nat → Option Blk) → Prop) : List Rc → (Nat → AV) → (Nat → Option Blk) → Prop
 | [], a, h => F a h
 | r :: l, a, h => OkR ops r a h ∧ RunH ops F l (updA a r.o.dst r.q.v) (r.app h)
structure Ind (ops : Array Oper) (i j : Rc) : Prop where
 ci : clearOf ops i.o j.o.dst = true
 cj : clearOf ops j.o i.o.dst = true
 dd : ∀ d, i.o.dst = some d → j.o.dst ≠ some d
 tt : ∀ b, i.tch b = true → j.tch b = true → False
 ij : ∀ b, i.tch b = true → j.sees b = true → False
 ji : ∀ b, j.tch b = true → i.sees b = true → False
theorem updA_clear {ops : Array Oper} {o : Oper} {a : Nat → AV} {d : Option Tmp} {v : AV} (hc : clearOf ops o d = true) : ∀ t ∈ o.looksAt ops, updA a d v t = a t := fun t ht => by
 cases d with
 | none => rfl
 | some d =>
  simp only [updA]
  rw [if_neg]
  intro he; subst he
  simp [clearOf, ht] at hc
theorem updA_comm {a : Nat → AV} {x y : Option Tmp} {a1 b1 : AV} (h : ∀ d, x = some d → y ≠ some d) : updA (updA a x a1) y b1 = updA (updA a y b1) x a1 := by
 cases x with
 | none => rfl
 | some d => cases y with
  | none => rfl
  | some e =>
   have hne : e ≠ d := fun he => h d rfl (by rw [he])
   funext t
   simp only [updA]
   by_cases h1 : t = d <;> by_cases h2 : t = e <;> simp_all
theorem run_take {ops : Array Oper} {F : (Nat → AV) → (Nat → Option Blk) → Prop} {j : Rc} {l2 : List Rc} : ∀ (l1 : List Rc) (a : Nat → AV) (h : Nat → Option Blk), (∀ i ∈ l1, Ind ops i j) → RunH ops F (l1 ++ j :: l2) a h → OkR ops j a h ∧ RunH ops F (l1 ++ l2) (updA a j.o.dst j.q.v) (j.app h)
 | [], a, h, _, hr => hr
 | i :: l1, a, h, hi, hr => by
  have hd := hi i (by simp)
  obtain ⟨h1, h2⟩ := hr
  obtain ⟨⟨h3, h4⟩, h5⟩ := run_take l1 _ _ (fun k hk => hi k (by simp [hk])) h2
  refine ⟨⟨fun t ht => (updA_clear hd.cj t ht).symm.trans (h3 t ht), fun b hb => ?_⟩, ⟨fun t ht => (updA_clear hd.ci t ht).trans (h1.1 t ht), fun b hb => ?_⟩, ?_⟩
  ·have := h4 b hb
   unfold Rc.app at this
   rwa [if_neg (fun h6 => hd.ij b h6 hb)] at this
  ·unfold Rc.app
   rw [if_neg (fun h6 => hd.ji b h6 hb)]; exact h1.2 b hb
  ·rw [← updA_comm hd.dd]
   have : i.app (j.app h) = j.app (i.app h) := by
    funext b
    unfold Rc.app
    by_cases h6 : i.tch b = true
    ·rw [if_pos h6, if_neg (fun h7 => hd.tt b h6 h7), if_pos h6]
    ·rw [if_neg h6]
     by_cases h7 : j.tch b = true
     ·rw [if_pos h7, if_pos h7]
     ·rw [if_neg h7, if_neg h7, if_neg h6]
   show RunH ops F (l1 ++ l2) _ (i.app (j.app h))
   rw [this]; exact h5
end
end
end Go.Proofs.YtkmbkaoolacofaaGreat
/- A machine of plain data: drawing regions: which operations come ahead; the run in the order of the text, as records. No program is named here. -/
namespace Go.Proofs.YtkmbkaoolacofaaGreat
noncomputable section
open Go.RowKit
/-! ### What comes ahead in every order -/
def MaskOk (ops : Array Oper) (j m : Nat) : Prop := ∀ i, m.testBit i = true → ∀ listed : Array Bool, Closed ops listed → (∀ k ∈ directOf (opAt ops j), listed.getD k false = true) → listed.getD i false = true
theorem fold_bit {acc : List Nat} {i : Nat} : ∀ {ks : List Nat} {s : Nat}, (ks.foldl (fun s k => s ||| 2 ^ k ||| acc.getD k 0) s).testBit i = true → s.testBit i = true ∨ ∃ k ∈ ks, i = k ∨ (acc.getD k 0).testBit i = true
 | [], s, h => .inl h
 | k :: ks, s, h => by
  rcases fold_bit (ks := ks) h with h1 | ⟨k', h1, h2⟩
  ·rw [Nat.testBit_or, Nat.testBit_or, Nat.testBit_two_pow] at h1
   simp only [Bool.or_eq_true, decide_eq_true_eq] at h1
   rcases h1 with (h1 | h1) | h1
   ·exact .inl h1
   ·exact .inr ⟨k, by simp, .inl h1.symm⟩
   ·exact .inr ⟨k, by simp, .inr h1⟩
  ·exact .inr ⟨k', by simp [h1], h2⟩
theorem mask_ok {ops : Array Oper} {acc : List Nat} (hl : acc.length < ops.size) (ha : ∀ k, k < acc.length → MaskOk ops k (acc.getD k 0)) : MaskOk ops acc.length (mask acc (opAt ops acc.length)) := fun i hi listed hc hd => by
 rcases fold_bit hi with h | ⟨k, hk, rfl | h⟩
 ·simp at h
 ·exact hd _ hk
 ·rcases Nat.lt_or_ge k acc.length with h1 | h1
  ·exact ha k h1 i h listed hc (hc k (by omega) (hd k hk))
  ·rw [show acc.getD k 0 = 0 by simp [List.getD_eq_getElem?_getD, List.getElem?_eq_none h1]] at h; simp at h
theorem predsFrom_ok {ops : Array Oper} : ∀ (l : List Oper) (acc : List Nat), ops.toList.drop acc.length = l → (∀ k, k < acc.length → MaskOk ops k (acc.getD k 0)) → ∀ j, j < l.length → MaskOk ops (acc.length + j) ((predsFrom l acc).getD j 0)
 | [], acc, _, _, j, hj => by simp at hj
 | o :: l, acc, hd, ha, j, hj => by
  have hlt : acc.length < ops.size := by
   rcases Nat.lt_or_ge acc.length ops.size with h | h
   ·exact h
   ·rw [List.drop_of_length_le (by simpa using h)] at hd; cases hd
  have ho : opAt ops acc.length = o ∧ ops.toList.drop (acc.length + 1) = l := by
   rw [List.drop_eq_getElem_cons (by simpa using hlt)] at hd
   injection hd with h1 h2
   refine ⟨?_, h2⟩
   have := opAt_some hlt
   rw [Array.getElem?_eq_getElem hlt] at this
   rw [← h1]; simpa using (Option.some.inj this).symm
  have h0 := mask_ok hlt ha
  rw [ho.1] at h0
  cases j with
  | zero => exact h0
  | succ j =>
   have hacc : (acc ++ [mask acc o]).length = acc.length + 1 := by simp
   have := predsFrom_ok (ops := ops) l (acc ++ [mask acc o]) (by rw [hacc]; exact ho.2) (fun k hk => by
    rw [hacc] at hk
    rcases Nat.lt_or_ge k acc.length with h1 | h1
    ·rw [List.getD_eq_getElem?_getD, List.getElem?_append_left h1, ← List.getD_eq_getElem?_getD]; exact ha k h1
    ·have : k = acc.length := by omega
     subst this
     rw [List.getD_eq_getElem?_getD, List.getElem?_append_right (Nat.le_refl _)]; simpa using h0) j (by simpa using hj)
   rw [hacc] at this
   rw [show acc.length + (j + 1) = acc.length + 1 + j by omega]
   simpa [predsFrom] using this
theorem preds_ok {ops : Array Oper} {j : Nat} (hj : j < ops.size) : MaskOk ops j ((preds ops.toList).getD j 0) := by
 have := predsFrom_ok (ops := ops) ops.toList [] (by simp) (fun k hk => by simp at hk) j (by simpa using hj)
 rw [List.length_nil, Nat.zero_add] at this
 exact this

/-! ### The run in the order of the text -/
structure RcGood (run : Cx → Oper → AEnv → St → Option (List XO)) (cx : Cx) (all : List Oper) (n0 n1 : Nat) (r : Rc) : Prop where
 on : r.want = true → wantB all r.env r.o = some true ∧ run r.cx r.o r.env r.S = some [r.q]
 off : r.want = false → wantB all r.env r.o = some false ∧ r.q.v = .u ∧ r.q.S = r.S
 log : r.S.log = []
 cut : r.cx.cut = r.S.n
 kp : Kp r.cx r.S r.q.S
 bnd : ∀ b, r.S.get b ≠ none → b < r.S.n
 see : ∀ b, r.cx.see b = true → cx.vis b = true
 lo : n0 ≤ r.S.n
 hi : r.q.S.n ≤ n1
 op : all[r.k]? = some r.o
theorem RcGood.less {run : Cx → Oper → AEnv → St → Option (List XO)} {cx : Cx} {all : List Oper} {n0 n1 n2 : Nat} {r : Rc} (h : RcGood run cx all n0 n1 r) (hn : n2 ≤ n0) : RcGood run cx all n2 n1 r :=
 ⟨h.on, h.off, h.log, h.cut, h.kp, h.bnd, h.see, Nat.le_trans hn h.lo, h.hi, h.op⟩
def Dom (ms : List Nat) (i j : Rc) : Prop := i.q.S.n ≤ j.S.n ∧ ((ms.getD j.k 0).testBit i.k = true ∨ ((∀ b, j.cx.see b = true → i.tch b = false) ∧ ∀ b, j.cx.wr b = true → i.sees b = false))
theorem at_put {env : AEnv} {d : Option Nat} {v : AV} : AEnv.at (putE env d v) = updA (AEnv.at env) d v := by
 cases d with
 | none => rfl
 | some d =>
  funext t
  simp only [putE, updA, AEnv.at, Mp.get_set]
  by_cases h : t = d <;> simp [h]
section
variable {cx : Cx} {run : Cx → Oper → AEnv → St → Option (List XO)} {all : List Oper} {ms : List Nat}
theorem dom_dcx {ft : Nat → Bool} {rs : List Rc} {n k : Nat} {o : Oper} {w : Bool} {env : AEnv} {S : St} {q : XO} {i : Rc} (hi : i ∈ rs) (hn : i.q.S.n ≤ S.n) : Dom ms i { k := k, o := o, want := w, cx := dcx cx ft (ms.getD k 0) rs n, env := env, S := S, q := q } := by
 refine ⟨hn, ?_⟩
 cases hb : (ms.getD k 0).testBit i.k with
 | true => exact .inl rfl
 | false =>
  refine .inr ⟨fun b h => ?_, fun b h => ?_⟩
  ·simp only [dcx, Bool.and_eq_true, List.all_eq_true] at h
   have := h.2 i hi
   rw [hb] at this; simpa using this
  ·simp only [dcx, Bool.and_eq_true, List.all_eq_true] at h
   have := h.2 i hi
   rw [hb] at this; simpa using this
theorem drw_text (hrun : ∀ cxk o env S q, run cxk o env S = some [q] → cxk.cut ≤ S.n → Kp cxk S q.S) : ∀ (l : List Oper) (rs : List Rc) (env : AEnv) (S : St) (p : AEnv × St), cx.cut ≤ S.n → (∀ b, S.get b ≠ none → b < S.n) → drw run cx all ms l rs env S = some p →
  (∀ r ∈ rs, r.q.S.n ≤ S.n) → all.drop rs.length = l →
  ∃ l2 : List Rc, RunH all.toArray (fun a h => a = AEnv.at p.1 ∧ h = St.get p.2) l2 (AEnv.at env) (St.get S) ∧ (∀ r ∈ l2, RcGood run cx all S.n p.2.n r) ∧ l2.map (·.k) = List.range' rs.length l.length ∧ l2.Pairwise (Dom ms) ∧
   (∀ i ∈ rs, ∀ j ∈ l2, Dom ms i j) ∧ ∀ r ∈ l2, (∀ b ∈ r.q.S.log, b < cx.cut → b ∈ p.2.log) ∧ ∀ b, b < r.q.S.n → r.q.S.get b = none → p.2.get b = none
 | [], rs, env, S, p, _, _, h, _, _ => by
  simp only [drw, Option.some.injEq] at h; subst h
  exact ⟨[], ⟨rfl, rfl⟩, fun _ h => (by cases h), rfl, .nil, fun _ _ _ h => (by cases h), fun _ h => (by cases h)⟩
 | o :: l, rs, env, S, p, hc, hb, h, hn, hd => by
  have hlt : rs.length < all.length := by
   rcases Nat.lt_or_ge rs.length all.length with h | h
   ·exact h
   ·rw [List.drop_of_length_le h] at hd; cases hd
  rw [List.drop_eq_getElem_cons hlt] at hd
  injection hd with hd1 hd2
  have hop : all[rs.length]? = some o := by rw [List.getElem?_eq_getElem hlt, hd1]
  simp only [drw] at h
  split at h
  ·rename_i hw
   split at h
   ·rename_i q hq
    have kq := hrun _ _ _ _ _ hq (Nat.le_refl _)
    have kb := Kp.back hc kq
    generalize hr : ({ k := rs.length, o := o, want := true, cx := dcx cx (foot env o) (ms.getD rs.length 0) rs S.n, env := env, S := S.bare, q := q } : Rc) = r at h
    have hrest := drw_kp hrun (Nat.le_trans hc kb.n) h
    have hrn : r.q.S.n = q.S.n := by rw [← hr]
    obtain ⟨l2, h1, h2, h3, h4, h5, h6⟩ := drw_text hrun l (r :: rs) _ _ _ (Nat.le_trans hc kb.n) (kb.bnd hb) h (fun i hi => by
     rcases List.mem_cons.1 hi with rfl | hi
     ·rw [hrn]; exact Nat.le_refl _
     ·exact Nat.le_trans (hn i hi) kb.n) (by simpa using hd2)
    have hget : St.get (S.back cx q.S) = r.app (St.get S) := by
     funext b
     unfold Rc.app
     have htch : r.tch b = (q.S.log.contains b || (Nat.ble S.n b && Nat.blt b q.S.n)) := by rw [← hr]; rfl
     show q.S.get b = _
     cases ht : r.tch b with
     | true => rw [if_pos rfl, ← hr]
     | false =>
      rw [if_neg (by simp)]
      rw [htch] at ht
      simp only [Bool.or_eq_false_iff, Bool.and_eq_false_iff] at ht
      rcases Nat.lt_or_ge b S.n with h7 | h7
      ·exact kq.keep b h7 (by simpa using ht.1)
      ·have h8 : ¬ b < q.S.n := fun h9 => by
        rcases ht.2 with h10 | h10
        ·rw [Nat.ble_eq_true_of_le h7] at h10; cases h10
        ·have : Nat.blt b q.S.n = true := Nat.ble_eq_true_of_le h9
         rw [this] at h10; cases h10
       have h9 : S.get b = none := by
        cases h10 : S.get b with
        | none => rfl
        | some B => have := hb b (by rw [h10]; simp); omega
       have h11 : q.S.get b = none := by
        cases h10 : q.S.get b with
        | none => rfl
        | some B => have := (kb.bnd hb) b (by show q.S.get b ≠ none; rw [h10]; simp); exact absurd this h8
       rw [h9, h11]
    have hgood : RcGood run cx all S.n p.2.n r := by
     rw [← hr]
     refine ⟨fun _ => ⟨hw, hq⟩, fun h => (by cases h), rfl, rfl, kq, hb, fun b h => ?_, Nat.le_refl _, hrest.n, hop⟩
     simp only [dcx, Bool.and_eq_true] at h; exact h.1.1
    refine ⟨r :: l2, ⟨?_, ?_⟩, fun i hi => ?_, ?_, List.pairwise_cons.2 ⟨fun j hj => h5 r (by simp) j hj, h4⟩, fun i hi j hj => ?_, fun i hi => ?_⟩
    ·rw [← hr]; exact ⟨fun _ _ => rfl, fun _ _ => rfl⟩
    ·rw [at_put, hget] at h1
     have : updA (AEnv.at env) r.o.dst r.q.v = updA (AEnv.at env) o.dst q.v := by rw [← hr]
     rw [this]; exact h1
    ·rcases List.mem_cons.1 hi with rfl | hi
     ·exact hgood
     ·exact (h2 i hi).less kb.n
    ·rw [List.map_cons, h3, ← hr]; simp [List.range'_succ]
    ·rcases List.mem_cons.1 hj with rfl | hj
     ·rw [← hr]; exact dom_dcx hi (hn i hi)
     ·exact h5 i (by simp [hi]) j hj
    ·rcases List.mem_cons.1 hi with rfl | hi
     ·refine ⟨fun b hb hcut => ?_, fun b hb h0 => ?_⟩
      ·rw [← hr] at hb
       exact hrest.log b (mem_mrg.2 (.inr ⟨hb, hcut⟩))
      ·rw [← hr] at hb h0
       exact hrest.dead b hb h0
     ·exact h6 i hi
   ·cases h
  ·rename_i hw
   generalize hr : ({ k := rs.length, o := o, want := false, cx := ⟨fun _ => false, fun _ => false, S.n⟩, env := env, S := S.bare, q := xo1 S.bare .u } : Rc) = r at h
   have hrest := drw_kp hrun hc h
   obtain ⟨l2, h1, h2, h3, h4, h5, h6⟩ := drw_text hrun l (r :: rs) _ _ _ hc hb h (fun i hi => by
    rcases List.mem_cons.1 hi with rfl | hi
    ·rw [← hr]; exact Nat.le_refl _
    ·exact hn i hi) (by simpa using hd2)
   have htch : ∀ b, r.tch b = false := fun b => by
    rw [← hr]
    show (([] : List Nat).contains b || (Nat.ble S.n b && Nat.blt b S.n)) = false
    cases h7 : Nat.ble S.n b with
    | false => rfl
    | true =>
     cases h8 : Nat.blt b S.n with
     | false => rfl
     | true =>
      have h9 := Nat.le_of_ble_eq_true h7
      have h10 : b < S.n := Nat.le_of_ble_eq_true h8
      omega
   have hget : St.get S = r.app (St.get S) := by
    funext b; unfold Rc.app; rw [if_neg (by rw [htch]; simp)]
   have hgood : RcGood run cx all S.n p.2.n r := by
    rw [← hr]
    exact ⟨fun h => (by cases h), fun _ => ⟨hw, rfl, rfl⟩, rfl, rfl, Kp.refl, hb, fun b h => (by cases h), Nat.le_refl _, hrest.n, hop⟩
   refine ⟨r :: l2, ⟨?_, ?_⟩, fun i hi => ?_, ?_, List.pairwise_cons.2 ⟨fun j hj => h5 r (by simp) j hj, h4⟩, fun i hi j hj => ?_, fun i hi => ?_⟩
   ·rw [← hr]; exact ⟨fun _ _ => rfl, fun _ _ => rfl⟩
   ·rw [at_put] at h1
    rw [← hget]
    have : updA (AEnv.at env) r.o.dst r.q.v = updA (AEnv.at env) o.dst .u := by rw [← hr]; rfl
    rw [this]; exact h1
   ·rcases List.mem_cons.1 hi with rfl | hi
    ·exact hgood
    ·exact h2 i hi
   ·rw [List.map_cons, h3, ← hr]; simp [List.range'_succ]
   ·rcases List.mem_cons.1 hj with rfl | hj
    ·rw [← hr]; exact ⟨hn i hi, .inr ⟨fun b h => (by cases h), fun b h => (by cases h)⟩⟩
    ·exact h5 i (by simp [hi]) j hj
   ·rcases List.mem_cons.1 hi with rfl | hi
    ·refine ⟨fun b hb _ => ?_, fun b hb h0 => ?_⟩
     ·rw [← hr] at hb; cases hb
     ·rw [← hr] at hb h0
      exact hrest.dead b hb h0
    ·exact h6 i hi
  ·cases h
theorem ind_of {ops : Array Oper} {n0 n1 : Nat} {i j : Rc} (gi : RcGood run cx all n0 n1 i) (gj : RcGood run cx all n0 n1 j) (hd : Dom ms i j) (hm : ¬ (ms.getD j.k 0).testBit i.k = true) (ha : apartB ops i.o j.o = true) : Ind ops i j := by
 obtain ⟨hn, hu⟩ := hd
 obtain ⟨hu1, hu2⟩ := hu.resolve_left hm
 have tchj : ∀ b, j.tch b = true → (b < j.S.n ∧ j.cx.see b = true ∧ j.cx.wr b = true) ∨ j.S.n ≤ b := fun b hb => by
  simp only [Rc.tch, Bool.or_eq_true, Bool.and_eq_true] at hb
  rcases hb with hb | hb
  ·rcases gj.kp.wr b (by simpa using hb) with h1 | h1
   ·rw [gj.log] at h1; cases h1
   ·left; rw [gj.cut] at h1; exact h1
  ·exact .inr (Nat.le_of_ble_eq_true hb.1)
 have tchi : ∀ b, i.tch b = true → b < i.q.S.n := fun b hb => by
  simp only [Rc.tch, Bool.or_eq_true, Bool.and_eq_true] at hb
  rcases hb with hb | hb
  ·rcases gi.kp.wr b (by simpa using hb) with h1 | h1
   ·rw [gi.log] at h1; cases h1
   ·rw [gi.cut] at h1; exact Nat.lt_of_lt_of_le h1.1 gi.kp.n
  ·exact Nat.le_of_ble_eq_true hb.2
 simp only [apartB, Bool.and_eq_true] at ha
 obtain ⟨⟨ha1, ha2⟩, ha3⟩ := ha
 refine ⟨ha1, ha2, fun d hdd => ?_, fun b h1 h2 => ?_, fun b h1 h2 => ?_, fun b h1 h2 => ?_⟩
 ·rw [hdd] at ha3; simpa using ha3
 ·rcases tchj b h2 with h3 | h3
  ·have := hu1 b h3.2.1; rw [h1] at this; cases this
  ·have := tchi b h1; omega
 ·simp only [Rc.sees, Bool.and_eq_true] at h2
  have := hu1 b h2.2; rw [h1] at this; cases this
 ·rcases tchj b h1 with h3 | h3
  ·have := hu2 b h3.2.2; rw [h2] at this; cases this
  ·simp only [Rc.sees, Bool.and_eq_true] at h2
   have h4 : b < i.S.n := Nat.le_of_ble_eq_true h2.1
   have := gi.kp.n
   omega
end
end
end Go.Proofs.YtkmbkaoolacofaaGreat
