/- A region that draws its order, walked once in the order of the text: each operation in whatever world the others may have left. No program is named here. -/
import Derived.Test.YtmebkoemfjlbcaaGreatDoorLit
import Derived.OrdersIn
namespace Go.Proofs.YtmebkoemfjlbcaaGreatDoor
open Go.RowKit

def yieldE (ops : Array Oper) (e : Env) (j : Nat) : Option Bool :=
 match ((ops[j]?).bind (·.dst)).map e with
 | some (.bool b) => some b
 | _ => none
theorem Y3 {ops : Array Oper} {N : Nat} {e : Env} {a : Act} (ha : Wf N e a) : yielded ops a.tmps = yieldE ops e := by
 funext j
 unfold yielded yieldE
 cases h : (ops[j]?).bind (·.dst) with
 | none => rfl
 | some d =>
  have hd := ha.get d
  rw [Array.getD_eq_getD_getElem?] at hd
  simp only [Option.bind_some, Option.map_some]
  cases ht : a.tmps[d]? with
  | none => rw [ht] at hd; simp only [Option.getD_none] at hd; rw [← hd]; rfl
  | some v => rw [ht] at hd; simp only [Option.getD_some] at hd; rw [← hd]; rfl
theorem Wants.yieldE {ops : Array Oper} {e : Env} {o : Oper} {t : Bool} (h : Wants ops e o.guard t) : Region.wanted o (Go.Proofs.YtmebkoemfjlbcaaGreatDoor.yieldE ops e) = t := by
 unfold Region.wanted
 cases hg : o.guard with
 | none => rw [hg] at h; cases h; rfl
 | some p =>
  obtain ⟨j, b⟩ := p
  rw [hg] at h
  cases h with
  | yes hd he => simp only [Go.Proofs.YtmebkoemfjlbcaaGreatDoor.yieldE, hd, Option.map_some, he]; simp
  | no hd he hne => simp only [Go.Proofs.YtmebkoemfjlbcaaGreatDoor.yieldE, hd, Option.map_some, he]; simpa using hne
  | off hd he => simp only [Go.Proofs.YtmebkoemfjlbcaaGreatDoor.yieldE, hd, Option.map_some, he]; rfl

def Wx (ops : Array Oper) (o : Oper) (d : Option Tmp) : Bool :=
 match d with
 | some d => !(o.looksAt ops).contains d
 | none => true
def Wh (o : Oper) : Bool := match o.op with | .select _ _ => true | .defer _ => true | _ => false
theorem P0 {e e' : Env} {x : Operand} (h : ∀ t, x = .tmp t → e' t = e t) : ev e' x = ev e x := by
 cases x with
 | tmp t => exact h t rfl
 | _ => rfl

section
variable {P : Program} {ops : Array Oper}
theorem Wv {o : Oper} {d : Option Tmp} (hs : Wh o = false) (hc : Wx ops o d = true) (e : Env) (v : Value) : execOp (ev (Te e d v)) o = execOp (ev e) o := by
 cases d with
 | none => rfl
 | some d =>
  refine execOp_congr o (fun cs b h => by simp [Wh, h] at hs) fun x hx => P0 fun t ht => Yn _ _ fun h => ?_
  subst ht; subst h
  have : t ∈ o.looksAt ops := List.mem_append_left _ (List.mem_filterMap.2 ⟨.tmp t, by simpa using hx, rfl⟩)
  simp [Wx, this] at hc
theorem Qr {o : Oper} {d : Option Tmp} (hc : Wx ops o d = true) (e : Env) (v : Value) : Region.wanted o (yieldE ops (Te e d v)) = Region.wanted o (yieldE ops e) := by
 cases d with
 | none => rfl
 | some d =>
  unfold Region.wanted
  cases hg : o.guard with
  | none => rfl
  | some p =>
   obtain ⟨j, b⟩ := p
   have : yieldE ops (Te e (some d) v) j = yieldE ops e j := by
    unfold yieldE
    cases hd : (ops[j]?).bind (·.dst) with
    | none => rfl
    | some t =>
     have hne : t ≠ d := fun h => by
      subst h
      have : t ∈ o.looksAt ops := by unfold Oper.looksAt; rw [List.mem_append]; right; simp [hg, hd]
      simp [Wx, this] at hc
     simp only [Option.map_some, Te, Yn _ _ hne]
   simp only [this]
theorem W9 {e : Env} {x y : Option Tmp} {u v : Value} (h : ∀ d, x = some d → y ≠ some d) : Te (Te e x u) y v = Te (Te e y v) x u := by
 cases x with
 | none => rfl
 | some a =>
  cases y with
  | none => rfl
  | some b =>
   have hab : b ≠ a := fun hh => h a rfl (by rw [hh])
   funext t
   simp only [Te]
   by_cases h1 : t = a
   ·subst h1; rw [Yn _ _ (fun h => hab h.symm), Uf, Uf]
   ·by_cases h2 : t = b
    ·subst h2; rw [Uf, Yn _ _ h1, Uf]
    ·rw [Yn _ _ h2, Yn _ _ h1, Yn _ _ h1, Yn _ _ h2]
theorem Vg {o : Oper} {d : Option Tmp} (hs : Wh o = false) (hc : Wx ops o d = true) {e : Env} {v : Value} {w : World} {K : Value → World → Prop} : doE P o (Te e d v) w K ↔ doE P o e w K := by
 unfold doE; rw [Wv hs hc]

abbrev To := Gh → World → Prop
structure Kt where
 rel : Gh → World → Gh → World → Prop
 late : Nat → Bool := fun _ => false
 lt : World → Prop := fun _ => True
abbrev Yk : Kt := { rel := Ext }
variable {SR : Kt}
def Gl (o : Oper) : List Nat := (o.after.toList.filter (Region.binds .any)).map (·.on)
def Wj (F : Nat → To) (i : Nat) (A : To) : Nat → To := fun k => if k = i then A else F k
def Dep (C : To) (F : Nat → To) (o : Oper) : To := fun g w => C g w ∧ ∀ j ∈ Gl o, F j g w
def All (C : To) (F : Nat → To) : To := fun g w => C g w ∧ ∀ j, F j g w
abbrev Yw := Nat → Option (Env → Value → To)
def WOk (ops : Array Oper) (Φ : Yw) : Prop := ∀ i φ oi d e v, Φ i = some φ → ops[i]? = some oi → Wx ops oi d = true → φ (Te e d v) = φ e
def OkS (SR : Kt) (P : Program) (C : To) (F : Nat → To) (o : Oper) (e : Env) (φ : Value → To) : Prop :=
 ∀ g w, Dep C F o g w → doE P o e w fun v w' => ∃ g', SR.rel g w g' w' ∧ φ v g' w'
def OkN (P : Program) (C : To) (F : Nat → To) (o : Oper) (e : Env) (c : Value) : Prop :=
 ∀ g w, Dep C F o g w → (execOp (ev e) o).run P w = .ok (.value c) w
def OkL (SR : Kt) (i : Nat) (P : Program) (C : To) (F : Nat → To) (o : Oper) (e : Env) (c : Value) : Prop :=
 OkN P C F o e c ∧ (SR.late i = true → ∀ w, SR.lt w → (execOp (ev e) o).run P w = .ok (.value c) w)
def Wy (SR : Kt) (P : Program) (ops : Array Oper) (C : To) (Φ : Yw) (F : Nat → To) (e : Env) (i : Nat) (o : Oper) (K : (Nat → To) → Env → Prop) : Prop :=
 if Region.wanted o (yieldE ops e) = true then
  match Φ i with
  | none => ∃ c, OkL SR i P C F o e c ∧ K (Wj F i (fun g w => ∀ j ∈ Gl o, F j g w)) (Te e o.dst c)
  | some φ => OkS SR P C F o e (φ e) ∧ ∀ v, (∃ g w, All C F g w ∧ φ e v g w) → K (Wj F i (fun g w => φ e v g w ∧ ∀ j ∈ Gl o, F j g w)) (Te e o.dst v)
 else K (Wj F i (fun _ _ => True)) (Te e o.dst undef)
def Lex (SR : Kt) (P : Program) (ops : Array Oper) (C : To) (Φ : Yw) (Q : Env → To) : List Nat → (Nat → To) → Env → Prop
 | [], F, e => ∀ g w, All C F g w → Q e g w
 | i :: l, F, e => match ops[i]? with
  | none => False
  | some o => Wy SR P ops C Φ F e i o (Lex SR P ops C Φ Q l)

theorem Xg {F : Nat → To} {i j : Nat} {A B : To} (h : i ≠ j) : Wj (Wj F i A) j B = Wj (Wj F j B) i A := by
 funext k; unfold Wj; by_cases h1 : k = i <;> by_cases h2 : k = j <;> simp_all
theorem Jh {F : Nat → To} {i k : Nat} {A : To} (h : k ≠ i) : Wj F i A k = F k := by unfold Wj; simp [h]
theorem Rk {F : Nat → To} {i : Nat} {A : To} : Wj F i A i = A := by unfold Wj; simp

def Up (SR : Kt) (A : To) : Prop := ∀ g w g' w', SR.rel g w g' w' → A g w → A g' w'
variable {C : To} {Φ : Yw} {Q : Env → To}

structure A3 (ops : Array Oper) (i j : Nat) (oi oj : Oper) : Prop where
 ne : i ≠ j
 ij : i ∉ Gl oj
 ji : j ∉ Gl oi
 ci : Wx ops oi oj.dst = true
 cj : Wx ops oj oi.dst = true
 dd : ∀ d, oi.dst = some d → oj.dst ≠ some d
 si : Wh oi = false
 sj : Wh oj = false

theorem L1 {F : Nat → To} {o : Oper} {i : Nat} {A : To} (h : i ∉ Gl o) : Dep C (Wj F i A) o = Dep C F o := by
 funext g w
 unfold Dep
 refine propext ⟨fun ⟨h1, h2⟩ => ⟨h1, fun j hj => ?_⟩, fun ⟨h1, h2⟩ => ⟨h1, fun j hj => ?_⟩⟩
 ·have := h2 j hj; rwa [Jh (fun e : j = i => h (by rw [← e]; exact hj))] at this
 ·rw [Jh (fun e : j = i => h (by rw [← e]; exact hj))]; exact h2 j hj
theorem Vk {F : Nat → To} {o : Oper} {i : Nat} {A : To} (h : i ∉ Gl o) : (fun g w => ∀ j ∈ Gl o, Wj F i A j g w) = (fun g w => ∀ j ∈ Gl o, F j g w) := by
 funext g w
 refine propext ⟨fun h2 j hj => ?_, fun h2 j hj => ?_⟩
 ·have := h2 j hj; rwa [Jh (fun e : j = i => h (by rw [← e]; exact hj))] at this
 ·rw [Jh (fun e : j = i => h (by rw [← e]; exact hj))]; exact h2 j hj
theorem Vj {F : Nat → To} {o : Oper} {i : Nat} {A : To} {e : Env} {d : Option Tmp} {v : Value} {φ : Value → To} (h : i ∉ Gl o) (hs : Wh o = false) (hc : Wx ops o d = true) : OkS SR P C (Wj F i A) o (Te e d v) φ ↔ OkS SR P C F o e φ := by
 unfold OkS; rw [L1 h]
 exact ⟨fun hh g w hd => (Vg hs hc).1 (hh g w hd), fun hh g w hd => (Vg hs hc).2 (hh g w hd)⟩
theorem Ak {F : Nat → To} {o : Oper} {i : Nat} {A : To} {e : Env} {d : Option Tmp} {v c : Value} (h : i ∉ Gl o) (hs : Wh o = false) (hc : Wx ops o d = true) : OkN P C (Wj F i A) o (Te e d v) c ↔ OkN P C F o e c := by
 unfold OkN; rw [L1 h, Wv hs hc]

theorem Uc {k : Nat} {F : Nat → To} {o : Oper} {i : Nat} {A : To} {e : Env} {d : Option Tmp} {v c : Value} (h : i ∉ Gl o) (hs : Wh o = false) (hc : Wx ops o d = true) : OkL SR k P C (Wj F i A) o (Te e d v) c ↔ OkL SR k P C F o e c := by
 unfold OkL; rw [Ak h hs hc, Wv hs hc]
theorem Rb {F : Nat → To} {i : Nat} {A : To} (hF : ∀ k, Up SR (F k)) (hA : Up SR A) : ∀ k, Up SR (Wj F i A k) := fun k => by
 by_cases hk : k = i
 ·subst hk; rw [Rk]; exact hA
 ·rw [Jh hk]; exact hF k
theorem S7 {F : Nat → To} {o : Oper} (hF : ∀ k, Up SR (F k)) : Up SR (fun g w => ∀ k ∈ Gl o, F k g w) := fun _ _ _ _ hx hk k hkk => hF k _ _ _ _ hx (hk k hkk)
theorem H0 {F : Nat → To} {i : Nat} {A : To} {g : Gh} {w : World} (h : All C F g w) (hA : A g w) : All C (Wj F i A) g w := ⟨h.1, fun k => by
 by_cases hk : k = i
 ·subst hk; rw [Rk]; exact hA
 ·rw [Jh hk]; exact h.2 k⟩
theorem Sa {F : Nat → To} {i : Nat} {A : To} {g : Gh} {w : World} (h : All C (Wj F i A) g w) (hT : ∀ g w, F i g w) : All C F g w := ⟨h.1, fun k => by
 by_cases hk : k = i
 ·subst hk; exact hT g w
 ·have := h.2 k; rwa [Jh hk] at this⟩
theorem Xw {F : Nat → To} {o : Oper} {i : Nat} {A B : To} (h : i ∉ Gl o) : (fun g w => A g w ∧ ∀ k ∈ Gl o, Wj F i B k g w) = (fun g w => A g w ∧ ∀ k ∈ Gl o, F k g w) := by
 have he := Vk (F := F) (A := B) h
 funext g w; rw [congrFun (congrFun he g) w]

theorem Vu {j : Nat} {oj : Oper} (hoj : ops[j]? = some oj) (hC : Up SR C) (hΦ : ∀ i φ e v, Φ i = some φ → Up SR (φ e v)) (hW : WOk ops Φ) {l2 : List Nat} : ∀ (l1 : List Nat) (F : Nat → To) (e : Env), (∀ i ∈ l1, ∃ oi, ops[i]? = some oi ∧ A3 ops i j oi oj) →
  (l1 ++ j :: l2).Nodup → (∀ k ∈ l1 ++ j :: l2, ∀ g w, F k g w) → (∃ g w, All C F g w) → (∀ k, Up SR (F k)) →
  Lex SR P ops C Φ Q (l1 ++ j :: l2) F e → Wy SR P ops C Φ F e j oj (Lex SR P ops C Φ Q (l1 ++ l2))
 | [], F, e, _, _, _, _, _, h => by
  simp only [List.nil_append, Lex, hoj] at h
  exact h
 | i :: l1, F, e, hap, hnd, hT, hreal, hF, h => by
  obtain ⟨oi, hoi, ap⟩ := hap i (by simp)
  have hap' : ∀ k ∈ l1, ∃ ok, ops[k]? = some ok ∧ A3 ops k j ok oj := fun k hk => hap k (by simp [hk])
  have hnei : i ≠ j := ap.ne
  simp only [List.cons_append, List.nodup_cons] at hnd
  have hT' : ∀ (A : To), ∀ k ∈ l1 ++ j :: l2, ∀ g w, Wj F i A k g w := fun A k hk g w => by
   rw [Jh (fun e => hnd.1 (by rw [← e]; exact hk))]; exact hT k (by simp only [List.cons_append, List.mem_cons]; exact .inr hk) g w
  have hTj : ∀ g w, F j g w := hT j (by simp)
  simp only [List.cons_append, Lex, hoi] at h
  unfold Wy at h
  by_cases hwi : Region.wanted oi (yieldE ops e) = true
  ·rw [if_pos hwi] at h
   have hwi' : ∀ v, Region.wanted oi (yieldE ops (Te e oj.dst v)) = true := fun v => by rw [Qr ap.ci]; exact hwi
   cases hφi : Φ i with
   | none =>
    rw [hφi] at h
    obtain ⟨c, hc, hrest⟩ := h
    have hreal' : ∃ g w, All C (Wj F i (fun g w => ∀ k ∈ Gl oi, F k g w)) g w := by
     obtain ⟨g, w, h1⟩ := hreal
     exact ⟨g, w, H0 h1 (fun k _ => h1.2 k)⟩
    have ih := Vu hoj hC hΦ hW l1 _ _ hap' hnd.2 (hT' _) hreal' (Rb hF (S7 hF)) hrest
    unfold Wy at ih ⊢
    rw [Qr ap.cj] at ih
    have back : ∀ (A : To) (v : Value), Lex SR P ops C Φ Q (l1 ++ l2) (Wj (Wj F i (fun g w => ∀ k ∈ Gl oi, F k g w)) j A) (Te (Te e oi.dst c) oj.dst v) →
      Lex SR P ops C Φ Q (i :: l1 ++ l2) (Wj F j A) (Te e oj.dst v) := fun A v hl => by
     simp only [List.cons_append, Lex, hoi]
     unfold Wy
     rw [if_pos (hwi' v), hφi]
     refine ⟨c, (Uc ap.ji ap.si ap.ci).2 hc, ?_⟩
     rw [Vk ap.ji, Xg hnei.symm, ← W9 ap.dd]
     exact hl
    by_cases hwj : Region.wanted oj (yieldE ops e) = true
    ·rw [if_pos hwj] at ih ⊢
     cases hφj : Φ j with
     | none =>
      rw [hφj] at ih
      obtain ⟨c2, hc2, h2⟩ := ih
      refine ⟨c2, (Uc ap.ij ap.sj ap.cj).1 hc2, back _ _ ?_⟩
      rw [Vk ap.ij] at h2
      exact h2
     | some φ =>
      rw [hφj] at ih
      simp only [hW j φ oj _ e c hφj hoj ap.cj] at ih
      obtain ⟨hs, h2⟩ := ih
      refine ⟨(Vj ap.ij ap.sj ap.cj).1 hs, fun v hv => back _ _ ?_⟩
      obtain ⟨g, w, h3, h5⟩ := hv
      have := h2 v ⟨g, w, H0 h3 (fun k _ => h3.2 k), h5⟩
      rw [Xw ap.ij] at this
      exact this
    ·rw [if_neg hwj] at ih ⊢
     exact back _ _ ih
   | some φi =>
    rw [hφi] at h
    obtain ⟨hsi, hrest⟩ := h
    have each : ∀ v, (∃ g w, All C F g w ∧ φi e v g w) → Wy SR P ops C Φ (Wj F i (fun g w => φi e v g w ∧ ∀ k ∈ Gl oi, F k g w)) (Te e oi.dst v) j oj (Lex SR P ops C Φ Q (l1 ++ l2)) := fun v hv => by
     refine Vu hoj hC hΦ hW l1 _ _ hap' hnd.2 (hT' _) ?_ (Rb hF (fun g w g' w' hx hh => ⟨hΦ _ _ _ _ hφi g w g' w' hx hh.1, S7 hF _ _ _ _ hx hh.2⟩)) (hrest v hv)
     obtain ⟨g, w, h1, h3⟩ := hv
     exact ⟨g, w, H0 h1 ⟨h3, fun k _ => h1.2 k⟩⟩
    have one : ∃ v, ∃ g w, All C F g w ∧ φi e v g w := by
     obtain ⟨g, w, h1, h2⟩ := hreal
     obtain ⟨v, w', g', hx, hv⟩ := Bg (hsi g w ⟨h1, fun k _ => h2 k⟩)
     exact ⟨v, g', w', ⟨hC _ _ _ _ hx h1, fun k => hF k _ _ _ _ hx (h2 k)⟩, hv⟩
    obtain ⟨v0, hv0⟩ := one
    have ih := each v0 hv0
    have back : ∀ (A : To) (v : Value), (∀ u, (∃ g w, All C (Wj F j A) g w ∧ φi e u g w) → Lex SR P ops C Φ Q (l1 ++ l2) (Wj (Wj F i (fun g w => φi e u g w ∧ ∀ k ∈ Gl oi, F k g w)) j A) (Te (Te e oi.dst u) oj.dst v)) →
      Lex SR P ops C Φ Q (i :: l1 ++ l2) (Wj F j A) (Te e oj.dst v) := fun A v hl => by
     simp only [List.cons_append, Lex, hoi]
     unfold Wy
     rw [if_pos (hwi' v), hφi]
     simp only [hW i φi oi _ e v hφi hoi ap.ci]
     refine ⟨(Vj ap.ji ap.si ap.ci).2 hsi, fun u hu => ?_⟩
     rw [Xw ap.ji, Xg hnei.symm, ← W9 ap.dd]
     exact hl u hu
    have under : ∀ {A : To} {u : Value}, (∃ g w, All C (Wj F j A) g w ∧ φi e u g w) → ∃ g w, All C F g w ∧ φi e u g w := fun hu => by
     obtain ⟨g, w, h1, h3⟩ := hu
     exact ⟨g, w, Sa h1 hTj, h3⟩
    unfold Wy at ih each ⊢
    simp only [Qr ap.cj] at ih each
    by_cases hwj : Region.wanted oj (yieldE ops e) = true
    ·simp only [if_pos hwj] at ih each ⊢
     cases hφj : Φ j with
     | none =>
      simp only [hφj] at ih each
      obtain ⟨c2, hc2, _⟩ := ih
      have hc2' := (Uc ap.ij ap.sj ap.cj).1 hc2
      refine ⟨c2, hc2', back _ _ fun u hu => ?_⟩
      obtain ⟨c3, hc3, h4⟩ := each u (under hu)
      have hc3' := (Uc ap.ij ap.sj ap.cj).1 hc3
      obtain ⟨g, w, h5⟩ := hreal
      have e1 := hc2'.1 g w ⟨h5.1, fun k _ => h5.2 k⟩
      have e2 := hc3'.1 g w ⟨h5.1, fun k _ => h5.2 k⟩
      rw [e1] at e2
      injection e2 with e2
      injection e2 with e2
      subst e2
      rw [Vk ap.ij] at h4
      exact h4
     | some φ =>
      simp only [hφj] at ih each
      simp only [hW j φ oj _ e _ hφj hoj ap.cj] at ih each
      refine ⟨(Vj ap.ij ap.sj ap.cj).1 ih.1, fun v _ => back _ _ fun u hu => ?_⟩
      have h4 := (each u (under hu)).2 v (by
       obtain ⟨g, w, h5, h6⟩ := hu
       have h7 := h5.2 j
       rw [Rk] at h7
       have h8 := Sa h5 hTj
       exact ⟨g, w, H0 h8 ⟨h6, fun k _ => h8.2 k⟩, h7.1⟩)
      rw [Xw ap.ij] at h4
      exact h4
    ·simp only [if_neg hwj] at each ⊢
     exact back _ _ fun u hu => each u (under hu)
  ·rw [if_neg hwi] at h
   have hwi' : ∀ v, ¬ (Region.wanted oi (yieldE ops (Te e oj.dst v)) = true) := fun v => by rw [Qr ap.ci]; exact hwi
   have hreal' : ∃ g w, All C (Wj F i (fun _ _ => True)) g w := by
    obtain ⟨g, w, h1⟩ := hreal
    exact ⟨g, w, H0 h1 trivial⟩
   have ih := Vu hoj hC hΦ hW l1 _ _ hap' hnd.2 (hT' _) hreal' (Rb hF (fun _ _ _ _ _ _ => trivial)) h
   unfold Wy at ih ⊢
   rw [Qr ap.cj] at ih
   have back : ∀ (A : To) (v : Value), Lex SR P ops C Φ Q (l1 ++ l2) (Wj (Wj F i (fun _ _ => True)) j A) (Te (Te e oi.dst undef) oj.dst v) →
     Lex SR P ops C Φ Q (i :: l1 ++ l2) (Wj F j A) (Te e oj.dst v) := fun A v hl => by
    simp only [List.cons_append, Lex, hoi]
    unfold Wy
    rw [if_neg (hwi' v), Xg hnei.symm, ← W9 ap.dd]
    exact hl
   by_cases hwj : Region.wanted oj (yieldE ops e) = true
   ·rw [if_pos hwj] at ih ⊢
    cases hφj : Φ j with
    | none =>
     rw [hφj] at ih
     obtain ⟨c2, hc2, h2⟩ := ih
     refine ⟨c2, (Uc ap.ij ap.sj ap.cj).1 hc2, back _ _ ?_⟩
     rw [Vk ap.ij] at h2
     exact h2
    | some φ =>
     rw [hφj] at ih
     simp only [hW j φ oj _ e undef hφj hoj ap.cj] at ih
     obtain ⟨hs, h2⟩ := ih
     refine ⟨(Vj ap.ij ap.sj ap.cj).1 hs, fun v hv => back _ _ ?_⟩
     obtain ⟨g, w, h3, h5⟩ := hv
     have := h2 v ⟨g, w, H0 h3 trivial, h5⟩
     rw [Xw ap.ij] at this
     exact this
   ·rw [if_neg hwj] at ih ⊢
    exact back _ _ ih

/-! ### From the lexical walk to every order -/
def G7 (ops : Array Oper) (i : Nat) : Oper := ops.getD i default
def Kn (ops : Array Oper) : Nat → Nat → Nat → Bool
 | 0, _, _ => false
 | n + 1, s, k => (Gl (G7 ops s)).any fun j => Nat.beq j k || Kn ops n j k
def Kb (ops : Array Oper) (oi oj : Oper) : Bool :=
 Wx ops oi oj.dst && Wx ops oj oi.dst && (match oi.dst with | some d => oj.dst != some d | none => true)
def Cn (N : Nat) (ops : Array Oper) (n : Nat) : Bool :=
 Nat.ble n ops.size &&
 (List.range ops.size).all (fun j => okO N (G7 ops j).dst && !Wh (G7 ops j) && (Gl (G7 ops j)).all (fun k => Nat.blt k j)) &&
 (List.range n).all (fun j => (List.range j).all fun i => (Gl (G7 ops j)).contains i || Kb ops (G7 ops i) (G7 ops j)) &&
 (List.range ops.size).all (fun s => Nat.blt s n || (List.range s).all fun k => Kn ops ops.size s k)
theorem Dz {o : Oper} {j : Nat} : j ∈ Gl o ↔ ∃ e ∈ o.after, Region.binds .any e = true ∧ e.on = j := by
 unfold Gl
 simp only [List.mem_map, List.mem_filter, Array.mem_toList_iff]
 exact ⟨fun ⟨e, ⟨h1, h2⟩, h3⟩ => ⟨e, h1, h2, h3⟩, fun ⟨e, h1, h2, h3⟩ => ⟨e, ⟨h1, h2⟩, h3⟩⟩
theorem We {i : Nat} (h : i < ops.size) : ops[i]? = some (G7 ops i) := by
 unfold G7; rw [Array.getD_eq_getD_getElem?, Array.getElem?_eq_getElem h]; rfl
theorem Wo {listed : Array Bool} {i : Nat} : i ∈ Region.ready .any ops listed ↔ listed.getD i true = false ∧ i < ops.size ∧ ∀ j ∈ Gl (G7 ops i), listed.getD j false = true := by
 rw [mem_ready]
 constructor
 ·rintro ⟨h1, o, ho, h2⟩
  have hi : i < ops.size := (Array.getElem?_eq_some_iff.1 ho).1
  have : o = G7 ops i := by rw [We hi] at ho; exact (Option.some.inj ho).symm
  subst this
  exact ⟨h1, hi, fun j hj => by obtain ⟨e, he, hb, rfl⟩ := Dz.1 hj; exact h2 e he hb⟩
 ·rintro ⟨h1, hi, h2⟩
  exact ⟨h1, _, We hi, fun e he hb => h2 _ (Dz.2 ⟨e, he, hb, rfl⟩)⟩
def Yo (ops : Array Oper) (listed : Array Bool) : Prop := ∀ k, k < ops.size → listed.getD k false = true → ∀ j ∈ Gl (G7 ops k), listed.getD j false = true
theorem Q8 {listed : Array Bool} (hc : Yo ops listed) (hb : ∀ j, j < ops.size → ∀ k ∈ Gl (G7 ops j), k < j) : ∀ (n s k : Nat), s < ops.size → Kn ops n s k = true → (∀ j ∈ Gl (G7 ops s), listed.getD j false = true) → listed.getD k false = true
 | 0, _, _, _, h, _ => by simp [Kn] at h
 | n + 1, s, k, hs, h, hd => by
  simp only [Kn, List.any_eq_true, Bool.or_eq_true] at h
  obtain ⟨j, hj, h | h⟩ := h
  ·rw [← Nat.eq_of_beq_eq_true h]; exact hd j hj
  ·have hjs := hb s hs j hj
   exact Q8 hc hb n j k (by omega) h (hc j (by omega) (hd j hj))
theorem H2 {listed : Array Bool} {j k : Nat} {b : Bool} (hj : j < listed.size) : (listed.setIfInBounds j true).getD k b = if k = j then true else listed.getD k b := by
 rw [Array.getD_eq_getD_getElem?, Array.getD_eq_getD_getElem?]
 by_cases h : k = j
 ·subst h; simp [hj]
 ·rw [Array.getElem?_setIfInBounds_ne (fun e => h e.symm)]; simp [h]
theorem Wp {listed : Array Bool} {k : Nat} (hk : k < listed.size) (b c : Bool) : listed.getD k b = listed.getD k c := by
 rw [Array.getD_eq_getD_getElem?, Array.getD_eq_getD_getElem?, Array.getElem?_eq_getElem hk]; rfl

theorem K8 {N : Nat} {ro : Option Nat} {Q' : Exit → Act → World → Prop} {i : Nat} {o : Oper} (ho : ops[i]? = some o) (hs : Wh o = false) {e : Env} {a : Act} (ha : Wf N e a) {w : World} {K : Act → World → Prop}
  (hw : Region.wanted o (yieldE ops e) = true) (h : doE P o e w fun v w' => K (a.put o.dst v) w') : wpOpIn (fz ro) 0 P ops Q' i K a w := by
 unfold wpOpIn
 rw [ho]
 simp only
 rw [Y3 ha, if_pos hw]
 refine ⟨fun _ _ => trivial, ?_⟩
 rw [Oper.semAt_eq _ _ _ (fun c hc => by simp [Wh, hc] at hs), ha.eval]
 unfold doE at h
 generalize (execOp (ev e) o).run P w = r at *
 cases r with
 | halt x w' => exact h.elim
 | ok n w' =>
  cases n <;> first
   | exact h
   | exact ⟨Jk ro, (Y4 h).mono (fun r w'' ⟨v, hv, hK⟩ => by subst hv; exact hK)⟩
   | exact ⟨Jk ro, RoundIn.mono (F := fz ro) (n := 0) h (fun r w'' ⟨v, hv, hK⟩ => by subst hv; exact hK)⟩
   | exact h.elim
theorem Jw {N : Nat} {ro : Option Nat} {Q' : Exit → Act → World → Prop} {i : Nat} {o : Oper} (ho : ops[i]? = some o) {e : Env} {a : Act} (ha : Wf N e a) {w : World} {K : Act → World → Prop}
  (hw : ¬ (Region.wanted o (yieldE ops e) = true)) (h : K (a.put o.dst undef) w) : wpOpIn (fz ro) 0 P ops Q' i K a w := by
 unfold wpOpIn
 rw [ho]
 simp only
 rw [Y3 ha, if_neg hw]
 exact ⟨fun _ _ => trivial, h⟩

theorem Vo {ro : Option Nat} {Q' : Exit → Act → World → Prop} (hb : ∀ j, j < ops.size → ∀ k ∈ Gl (G7 ops j), k < j) {n : Nat} (hr : ∀ s, n ≤ s → s < ops.size → ∀ k, k < s → Kn ops ops.size s k = true) :
  ∀ (m s : Nat) (listed : Array Bool) (a : Act) (w : World), n ≤ s → s + m = ops.size → listed.size = ops.size → Yo ops listed → (∀ k, k < ops.size → listed.getD k false = decide (k < s)) →
   wpListIn (fz ro) 0 P ops Q' (ops.toList.drop s) a w → wpAnyIn (fz ro) 0 P .any ops Q' m listed a w
 | 0, s, listed, a, w, hn, hm, hsz, _, hl, h => by
  have hs : s = ops.size := by omega
  subst hs
  rw [List.drop_of_length_le (by simp)] at h
  refine ⟨?_, h⟩
  rw [List.eq_nil_iff_forall_not_mem]
  intro i hi
  rw [Wo] at hi
  have := hl i hi.2.1
  rw [Wp (by omega) false true, hi.1] at this
  simp at this
  omega
 | m + 1, s, listed, a, w, hn, hm, hsz, hc, hl, h => by
  have hs : s < ops.size := by omega
  have hls : listed.getD s true = false := by rw [Wp (by omega) true false, hl s hs]; simp
  have hrdy : s ∈ Region.ready .any ops listed := Wo.2 ⟨hls, hs, fun j hj => by have := hb s hs j hj; rw [hl j (by omega)]; simpa using this⟩
  refine ⟨fun h0 => (by rw [h0] at hrdy; cases hrdy), fun i hi => ?_⟩
  have hi' := Wo.1 hi
  have his : i = s := by
   rcases Nat.lt_trichotomy i s with h1 | h1 | h1
   ·have := hl i hi'.2.1
    rw [Wp (by omega) false true, hi'.1] at this
    simp at this; omega
   ·exact h1
   ·have := Q8 hc hb _ i s hi'.2.1 (hr i (by omega) hi'.2.1 s h1) hi'.2.2
    rw [hl s hs] at this
    simp at this
  subst his
  have hd : ops.toList.drop i = G7 ops i :: ops.toList.drop (i + 1) := by
   rw [List.drop_eq_getElem_cons (by simpa using hs)]
   congr 1
   have := We hs
   rw [Array.getElem?_eq_getElem hs] at this
   simpa using Option.some.inj this
  rw [hd] at h
  unfold wpOpIn
  rw [We hs]
  simp only
  unfold wpListIn at h
  have ih : ∀ a w, wpListIn (fz ro) 0 P ops Q' (ops.toList.drop (i + 1)) a w → wpAnyIn (fz ro) 0 P .any ops Q' m (listed.setIfInBounds i true) a w := fun a w hh => by
   refine Vo hb hr m (i + 1) _ a w (by omega) (by omega) (by simp [hsz]) (fun k hk hlk j hj => ?_) (fun k hk => ?_) hh
   ·rw [H2 (by omega)] at hlk ⊢
    have hjk := hb k hk j hj
    by_cases hki : k = i
    ·subst hki; rw [if_neg (by omega)]; exact hi'.2.2 j hj
    ·rw [if_neg hki] at hlk
     have := hc k hk hlk j hj
     rw [this]; simp
   ·rw [H2 (by omega), hl k hk]
    by_cases hki : k = i
    ·subst hki; simp
    ·rw [if_neg hki, decide_eq_decide]; omega
  split
  ·rename_i hw; rw [if_pos hw] at h; exact Oper.wpIn_mono ih h
  ·rename_i hw; rw [if_neg hw] at h; exact ⟨h.1, ih _ _ h.2⟩

theorem Yt {N : Nat} {listed : Array Bool} {j : Nat} (hok : ∀ j, j < ops.size → okO N (G7 ops j).dst = true ∧ Wh (G7 ops j) = false ∧ ∀ k ∈ Gl (G7 ops j), k < j) (hcl : Yo ops listed) (hsz : listed.size = ops.size) (hj2 : j < ops.size)
  (hj3 : ∀ i ∈ Gl (G7 ops j), listed.getD i false = true) : Yo ops (listed.setIfInBounds j true) := fun k hk hlk i hi => by
 rw [H2 (by omega)] at hlk ⊢
 by_cases hkj : k = j
 ·subst hkj
  have := (hok k hk).2.2 i hi
  rw [if_neg (by omega)]; exact hj3 i hi
 ·rw [if_neg hkj] at hlk
  have := hcl k hk hlk i hi
  rw [this]; simp
theorem S5 {N n : Nat} {ds : List Deferred} {ro : Option Nat} {Q' : Exit → Act → World → Prop} (hC : Up SR C) (hΦ : ∀ i φ e v, Φ i = some φ → Up SR (φ e v)) (hW : WOk ops Φ) (hn : n ≤ ops.size)
  (hok : ∀ j, j < ops.size → okO N (G7 ops j).dst = true ∧ Wh (G7 ops j) = false ∧ ∀ k ∈ Gl (G7 ops j), k < j)
  (hap : ∀ j, j < n → ∀ i, i < j → i ∈ Gl (G7 ops j) ∨ Kb ops (G7 ops i) (G7 ops j) = true)
  (hr : ∀ s, n ≤ s → s < ops.size → ∀ k, k < n → Kn ops ops.size s k = true ∨ SR.late k = true)
  (hfin : ∀ (l : List Nat) (listed : Array Bool) (F : Nat → To) (e : Env) (g : Gh) (w : World) (a : Act), (∀ k ∈ l, SR.late k = true) → l.Pairwise (· < ·) → (∀ k ∈ l, k < n) → listed.size = ops.size → Yo ops listed →
   (∀ k, k < ops.size → listed.getD k false = (decide (k < n) && !l.contains k)) → All C F g w → Wf N e a → a.defers = ds → Lex SR P ops C Φ Q l F e → wpAnyIn (fz ro) 0 P .any ops Q' (l.length + (ops.size - n)) listed a w) :
  ∀ (c : Nat) (l : List Nat) (listed : Array Bool) (F : Nat → To) (e : Env) (g : Gh) (w : World) (a : Act), l.length = c → l.Pairwise (· < ·) → (∀ k ∈ l, k < n) → listed.size = ops.size → Yo ops listed →
   (∀ k, k < ops.size → listed.getD k false = (decide (k < n) && !l.contains k)) → (∀ k ∈ l, ∀ g w, F k g w) → (∀ k, Up SR (F k)) → All C F g w → Wf N e a → a.defers = ds →
   Lex SR P ops C Φ Q l F e → wpAnyIn (fz ro) 0 P .any ops Q' (c + (ops.size - n)) listed a w
 | c, l, listed, F, e, g, w, a, hc, hsort, hlt, hsz, hcl, hl, hT, hF, hall, ha, hds, h => by
  by_cases hlate : ∀ k ∈ l, SR.late k = true
  ·rw [← hc]
   exact hfin l listed F e g w a hlate hsort hlt hsz hcl hl hall ha hds h
  have hex : ∃ k0 ∈ l, ¬ (SR.late k0 = true) := by
   refine Classical.byContradiction fun hno => hlate fun k hk => Classical.byContradiction fun hk2 => hno ⟨k, hk, hk2⟩
  obtain ⟨k0, hk0, hk0l⟩ := hex
  match c, l, hc with
  | 0, [], _ => cases hk0
  | c + 1, i0 :: l0, hc =>
  rw [Nat.add_right_comm]
  have hi0 : i0 < n := hlt i0 (by simp)
  have hl' : ∀ k, k < n → (listed.getD k false = true ↔ k ∉ i0 :: l0) := fun k hk => by rw [hl k (by omega)]; simp [hk]
  have hrdy : i0 ∈ Region.ready .any ops listed := by
   refine Wo.2 ⟨?_, by omega, fun j hj => ?_⟩
   ·rw [Wp (by omega) true false, hl i0 (by omega)]; simp
   ·have hji := (hok i0 (by omega)).2.2 j hj
    rw [hl' j (by omega)]
    intro hm
    rcases List.mem_cons.1 hm with h1 | h1
    ·omega
    ·have := (List.pairwise_cons.1 hsort).1 j h1; omega
  refine ⟨fun h0 => (by rw [h0] at hrdy; cases hrdy), fun j hj => ?_⟩
  obtain ⟨hj1, hj2, hj3⟩ := Wo.1 hj
  -- j is one of the first n, and not yet listed
  have hjn : j < n := by
   rcases Nat.lt_or_ge j n with h1 | h1
   ·exact h1
   ·have hk0n := hlt k0 hk0
    have := Q8 hcl (fun j hj => (hok j hj).2.2) _ j k0 hj2 ((hr j h1 hj2 k0 hk0n).resolve_right hk0l) hj3
    rw [hl k0 (by omega)] at this
    have hk0c : (i0 :: l0).contains k0 = true := by simpa using hk0
    rw [hk0c] at this
    simp at this
  have hjl : j ∈ i0 :: l0 := by
   have := hl j hj2
   rw [Wp (by omega) false true, hj1] at this
   simp only [hjn, decide_true, Bool.true_and] at this
   by_cases hm : j ∈ i0 :: l0
   ·exact hm
   ·simp [hm] at this
  clear hk0 hk0l
  generalize i0 :: l0 = l at *
  obtain ⟨l1, l2, rfl⟩ := List.append_of_mem hjl
  have hoj := We hj2
  have hsel := fun k (hk : k < ops.size) => (hok k hk).2.1
  have hap' : ∀ i ∈ l1, ∃ oi, ops[i]? = some oi ∧ A3 ops i j oi (G7 ops j) := fun i hi => by
   have hij : i < j := (List.pairwise_append.1 hsort).2.2 i hi j (by simp)
   have hin : i < n := by omega
   have hnd : i ∉ Gl (G7 ops j) := fun hd => by
    have := hj3 i hd
    rw [hl i (by omega)] at this
    simp [hi] at this
   refine ⟨_, We (by omega), ?_⟩
   have hb := (hap j hjn i hij).resolve_left hnd
   simp only [Kb, Bool.and_eq_true] at hb
   refine ⟨by omega, hnd, fun hd => ?_, hb.1.1, hb.1.2, fun d hd => ?_, hsel i (by omega), hsel j hj2⟩
   ·have := (hok i (by omega)).2.2 j hd; omega
   ·have := hb.2; rw [hd] at this; simpa using this
  have hnodup : (l1 ++ j :: l2).Nodup := hsort.imp (fun h => by omega)
  have hstep := Vu hoj hC hΦ hW l1 F e hap' hnodup hT ⟨g, w, hall⟩ hF h
  have hlen : (l1 ++ l2).length = c := by simp at hc ⊢; omega
  have next : ∀ (A : To) (v : Value) (g' : Gh) (w' : World), Up SR A → All C (Wj F j A) g' w' → Lex SR P ops C Φ Q (l1 ++ l2) (Wj F j A) (Te e (G7 ops j).dst v) →
    wpAnyIn (fz ro) 0 P .any ops Q' (c + (ops.size - n)) (listed.setIfInBounds j true) (a.put (G7 ops j).dst v) w' := fun A v g' w' hA hall' hlex => by
   have hjl12 : j ∉ l1 ++ l2 := by
    rw [List.nodup_append] at hnodup
    intro hm
    rcases List.mem_append.1 hm with h1 | h1
    ·exact hnodup.2.2 j h1 j (by simp) rfl
    ·exact (List.nodup_cons.1 hnodup.2.1).1 h1
   refine S5 hC hΦ hW hn hok hap hr hfin c (l1 ++ l2) _ _ _ g' w' _ hlen ?_ (fun k hk => hlt k ?_) (by simp [hsz]) (Yt hok hcl hsz hj2 hj3) (fun k hk => ?_) (fun k hk g w => ?_) (Rb hF hA) hall' (ha.putO (hok j hj2).1 v) (by rw [Q6]; exact hds) hlex
   ·exact hsort.sublist (List.Sublist.append (List.Sublist.refl l1) (List.sublist_cons_self j l2))
   ·rcases List.mem_append.1 hk with h1 | h1 <;> simp [h1]
   ·rw [H2 (by omega), hl k hk]
    by_cases hkj : k = j
    ·subst hkj; simp [hjn]; simpa using hjl12
    ·rw [if_neg hkj]; congr 2; simp [hkj]
   ·have hkj : k ≠ j := fun h => hjl12 (h ▸ hk)
    rw [Jh hkj]
    refine hT k ?_ g w
    rcases List.mem_append.1 hk with h1 | h1 <;> simp [h1]
  unfold Wy at hstep
  by_cases hw : Region.wanted (G7 ops j) (yieldE ops e) = true
  ·rw [if_pos hw] at hstep
   refine K8 hoj (hsel j hj2) ha hw ?_
   cases hφ : Φ j with
   | none =>
    rw [hφ] at hstep
    obtain ⟨v, hv, hlex⟩ := hstep
    unfold doE
    rw [hv.1 g w ⟨hall.1, fun k _ => hall.2 k⟩]
    exact next _ v g w (S7 hF) (H0 hall (fun k _ => hall.2 k)) hlex
   | some φ =>
    rw [hφ] at hstep
    obtain ⟨hs, hlex⟩ := hstep
    refine Ke (hs g w ⟨hall.1, fun k _ => hall.2 k⟩) ?_
    rintro v w' ⟨g', hx, hv⟩
    have hall' : All C F g' w' := ⟨hC _ _ _ _ hx hall.1, fun k => hF k _ _ _ _ hx (hall.2 k)⟩
    exact next _ v g' w' (fun g w g' w' hx hh => ⟨hΦ _ _ _ _ hφ _ _ _ _ hx hh.1, S7 hF _ _ _ _ hx hh.2⟩) (H0 hall' ⟨hv, fun k _ => hall'.2 k⟩) (hlex v ⟨g', w', hall', hv⟩)
  ·rw [if_neg hw] at hstep
   exact Jw hoj ha hw (next _ undef g w (fun _ _ _ _ _ _ => trivial) (H0 hall trivial) hstep)

theorem Sq {N n : Nat} {ro : Option Nat} {Q' : Kx} {id : Nat} {l : List Oper} {e : Env} {ds : List Deferred} {g : Gh} {w : World} (C : To) (Φ : Yw) (hm : P.follows .mixedOrders = true) (hok : Cn N l.toArray n = true)
  (hC : Up SR C) (hC0 : C g { w with drawn := w.drawn + 1 }) (hΦ : ∀ i φ e v, Φ i = some φ → Up SR (φ e v)) (hW : WOk l.toArray Φ)
  (h : Lex SR P l.toArray C Φ (fun e' _ w' => EL P N ro l.toArray (l.drop n) Q' e' ds w') (List.range n) (fun _ _ _ => True) e) (hnl : ∀ k, SR.late k = false := by exact fun _ => rfl) : E P N ro (.region id l.toArray true) Q' e ds w := by
 intro a ha hd
 simp only [Cn, Bool.and_eq_true, List.all_eq_true, List.mem_range, Bool.or_eq_true] at hok
 obtain ⟨⟨⟨hn, h1⟩, h2⟩, h3⟩ := hok
 have hn' : n ≤ l.toArray.size := Nat.le_of_ble_eq_true hn
 have hr0 : ∀ s, n ≤ s → s < l.toArray.size → ∀ k, k < s → Kn l.toArray l.toArray.size s k = true := fun s hs hsz k hk => ((h3 s hsz).resolve_left (fun h => by have : s + 1 ≤ n := Nat.le_of_ble_eq_true h; omega)) k hk
 have hok0 : ∀ j, j < l.toArray.size → okO N (G7 l.toArray j).dst = true ∧ Wh (G7 l.toArray j) = false ∧ ∀ k ∈ Gl (G7 l.toArray j), k < j := fun j hj => ⟨(h1 j hj).1.1, by simpa using (h1 j hj).1.2, fun k hk => Nat.le_of_ble_eq_true ((h1 j hj).2 k hk)⟩
 refine wpIn_region_any hm ?_
 have key := S5 (P := P) (ops := l.toArray) (C := C) (Φ := Φ) (Q := fun e' _ w' => EL P N ro l.toArray (l.drop n) Q' e' ds w') (N := N) (n := n) (ds := ds) (ro := ro) (Q' := Ux N Q')
  hC hΦ hW hn' hok0
  (fun j hj i hi => (h2 j hj i hi).imp (fun h => by simpa using h) (fun h => h)) (fun s hs hsz k hk => .inl (hr0 s hs hsz k (by omega)))
  (fun l' listed F e' g' w' a' hlate _ hlt hsz hcl hl hall ha' hd' hL => by
   have hl0 : l' = [] := by
    cases l' with
    | nil => rfl
    | cons k _ => have := hlate k (by simp); rw [hnl k] at this; cases this
   subst hl0
   rw [List.length_nil, Nat.zero_add]
   refine Vo (fun j hj => (hok0 j hj).2.2) hr0 (l.toArray.size - n) n listed a' w' (Nat.le_refl _) (by omega) hsz hcl (fun k hk => by rw [hl k hk]; simp) ?_
   exact hL g' w' hall a' ha' hd')
  n (List.range n) (Array.replicate l.toArray.size false) (fun _ _ _ => True) e g { w with drawn := w.drawn + 1 } a (by simp) List.pairwise_lt_range (fun k hk => by simpa using hk) (by simp)
  (fun k _ hlk => by simp [Array.getD] at hlk) (fun k _ => by simp [Array.getD]) (fun _ _ _ _ => trivial) (fun _ _ _ _ _ _ _ => trivial) ⟨hC0, fun _ => trivial⟩ ha hd h
 have hsize : n + (l.toArray.size - n) = l.toArray.size := by omega
 rw [hsize] at key
 exact key

/-! ### Operations that compute without the world, and may come late -/
def TL (P : Program) (late : Nat → Bool) (L : World → Prop) (ops : Array Oper) (Q : Env → World → Prop) : Nat → List Oper → Env → World → Prop
 | _, [], e, w => L w ∧ Q e w
 | i, o :: rest, e, w => L w ∧ if late i = true then ∃ c, (∀ w, L w → (execOp (ev e) o).run P w = .ok (.value c) w) ∧ TL P late L ops Q (i + 1) rest (Te e o.dst c) w
  else if Region.wanted o (yieldE ops e) = true then doE P o e w (fun v w' => TL P late L ops Q (i + 1) rest (Te e o.dst v) w') else TL P late L ops Q (i + 1) rest (Te e o.dst undef) w
theorem TL.lt {P : Program} {late : Nat → Bool} {L : World → Prop} {ops : Array Oper} {Q : Env → World → Prop} {i : Nat} {l : List Oper} {e : Env} {w : World} (h : TL P late L ops Q i l e w) : L w := by
 cases l <;> exact h.1
def Hr (P : Program) (L : World → Prop) (ops : Array Oper) : List Nat → Env → Env → Prop
 | [], e, e' => e = e'
 | k :: l, e, e' => ∃ c, (∀ w, L w → (execOp (ev e) (G7 ops k)).run P w = .ok (.value c) w) ∧ Hr P L ops l (Te e (G7 ops k).dst c) e'
theorem Jg {oi oj : Oper} (h : Kb ops oi oj = true) : Wx ops oi oj.dst = true ∧ Wx ops oj oi.dst = true ∧ ∀ d, oi.dst = some d → oj.dst ≠ some d := by
 simp only [Kb, Bool.and_eq_true] at h
 exact ⟨h.1.1, h.1.2, fun d hd => by have := h.2; rw [hd] at this; simpa using this⟩
theorem Sg {L : World → Prop} {j : Nat} {l2 : List Nat} (hsj : Wh (G7 ops j) = false) : ∀ (l1 : List Nat) (e e' : Env), (∀ i ∈ l1, Wh (G7 ops i) = false ∧ Kb ops (G7 ops i) (G7 ops j) = true) → Hr P L ops (l1 ++ j :: l2) e e' →
  ∃ c, (∀ w, L w → (execOp (ev e) (G7 ops j)).run P w = .ok (.value c) w) ∧ Hr P L ops (l1 ++ l2) (Te e (G7 ops j).dst c) e'
 | [], _, _, _, h => h
 | i :: l1, e, e', hap, h => by
  obtain ⟨ci, hci, h⟩ := h
  obtain ⟨c, hc, h⟩ := Sg hsj l1 _ _ (fun k hk => hap k (by simp [hk])) h
  obtain ⟨hsi, hb⟩ := hap i (by simp)
  obtain ⟨h1, h2, h3⟩ := Jg hb
  rw [Wv hsj h2] at hc
  refine ⟨c, hc, ci, ?_, ?_⟩
  ·rw [Wv hsi h1]; exact hci
  ·rw [← W9 h3]; exact h
theorem B9 {L : World → Prop} {o : Oper} (hso : Wh o = false) : ∀ (l : List Nat) (e e' : Env), (∀ i ∈ l, Wh (G7 ops i) = false ∧ Kb ops (G7 ops i) o = true) → Hr P L ops l e e' →
  execOp (ev e') o = execOp (ev e) o ∧ Region.wanted o (yieldE ops e') = Region.wanted o (yieldE ops e) ∧ ∀ v, Hr P L ops l (Te e o.dst v) (Te e' o.dst v)
 | [], e, e', _, h => by rw [show e = e' from h]; exact ⟨rfl, rfl, fun _ => rfl⟩
 | i :: l, e, e', hap, h => by
  obtain ⟨ci, hci, h⟩ := h
  obtain ⟨hsi, hb⟩ := hap i (by simp)
  obtain ⟨h1, h2, h3⟩ := Jg hb
  obtain ⟨k1, k2, k3⟩ := B9 hso l _ _ (fun k hk => hap k (by simp [hk])) h
  rw [Wv hso h2] at k1
  rw [Qr h2] at k2
  refine ⟨k1, k2, fun v => ⟨ci, ?_, ?_⟩⟩
  ·rw [Wv hsi h1]; exact hci
  ·rw [← W9 h3]; exact k3 v
theorem Bt {P : Program} {L : World → Prop} {ops : Array Oper} {s : Nat} {c : Value} : ∀ {l : List Nat} {e e' : Env}, Hr P L ops l e e' → (∀ w, L w → (execOp (ev e') (G7 ops s)).run P w = .ok (.value c) w) → Hr P L ops (l ++ [s]) e (Te e' (G7 ops s).dst c)
 | [], e, e', h, hc => by obtain rfl : e = e' := h; exact ⟨c, hc, rfl⟩
 | k :: l, e, e', ⟨c', h1, h2⟩, hc => ⟨c', h1, Bt h2 hc⟩
theorem R2 {P : Program} {late : Nat → Bool} {L : World → Prop} {ops : Array Oper} {Q : Env → World → Prop} {w : World} : ∀ (d s : Nat) (l : List Nat) (e e' : Env), ops.size - s = d → s ≤ ops.size → l.Pairwise (· < ·) → (∀ k ∈ l, late k = true ∧ k < s) → Hr P L ops l e e' → TL P late L ops Q s (ops.toList.drop s) e' w →
  ∃ s' l' e'', s ≤ s' ∧ s' ≤ ops.size ∧ (s' = ops.size ∨ late s' = false) ∧ l'.length + (ops.size - s') = l.length + (ops.size - s) ∧ l'.Pairwise (· < ·) ∧ (∀ k ∈ l', late k = true ∧ k < s') ∧ (∀ k, (decide (k < s') && !l'.contains k) = (decide (k < s) && !l.contains k)) ∧ Hr P L ops l' e e'' ∧ TL P late L ops Q s' (ops.toList.drop s') e'' w
 | 0, s, l, e, e', hd, hs, hsort, hl, hp, h => ⟨s, l, e', Nat.le_refl _, hs, .inl (by omega), rfl, hsort, hl, fun _ => rfl, hp, h⟩
 | d + 1, s, l, e, e', hd, hs, hsort, hl, hp, h => by
  cases hls : late s with
  | false => exact ⟨s, l, e', Nat.le_refl _, hs, .inr hls, rfl, hsort, hl, fun _ => rfl, hp, h⟩
  | true =>
   have hlt : s < ops.size := by omega
   have hdrop : ops.toList.drop s = G7 ops s :: ops.toList.drop (s + 1) := by
    rw [List.drop_eq_getElem_cons (by simpa using hlt)]
    congr 1
    have := We hlt
    rw [Array.getElem?_eq_getElem hlt] at this
    simpa using Option.some.inj this
   rw [hdrop] at h
   simp only [TL, hls, if_true] at h
   obtain ⟨_, c, hc, h⟩ := h
   obtain ⟨s', l', e'', h1, h2, h3, h4, h5, h6, h7, h8, h9⟩ := R2 d (s + 1) (l ++ [s]) e _ (by omega) (by omega)
    (List.pairwise_append.2 ⟨hsort, by simp, fun a ha b hb => by simp at hb; subst hb; exact (hl a ha).2⟩)
    (fun k hk => by
     rcases List.mem_append.1 hk with hk | hk
     ·exact ⟨(hl k hk).1, by have := (hl k hk).2; omega⟩
     ·simp at hk; subst hk; exact ⟨hls, by omega⟩) (Bt hp hc) h
   refine ⟨s', l', e'', by omega, h2, h3, by rw [h4]; simp; omega, h5, h6, fun k => (h7 k).trans ?_, h8, h9⟩
   by_cases hk : k = s
   ·subst hk
    have : ¬ k < k := Nat.lt_irrefl _
    simp
   ·have h10 : decide (k < s + 1) = decide (k < s) := by rw [decide_eq_decide]; omega
    rw [h10]; congr 2
    simp [hk]
theorem Xb {L : World → Prop} {N n : Nat} {ro : Option Nat} {ds : List Deferred} {Q' : Kx} {late : Nat → Bool} (hok : ∀ j, j < ops.size → okO N (G7 ops j).dst = true ∧ Wh (G7 ops j) = false ∧ ∀ k ∈ Gl (G7 ops j), k < j)
  (hap : ∀ j, j < n → ∀ i, i < j → i ∈ Gl (G7 ops j) ∨ Kb ops (G7 ops i) (G7 ops j) = true) (hn : n ≤ ops.size)
  (hr : ∀ s, n ≤ s → s < ops.size → ∀ k, k < s → Kn ops ops.size s k = true ∨ (late k = true ∧ Kb ops (G7 ops k) (G7 ops s) = true)) (hg : ∀ k, late k = true → k < ops.size → (G7 ops k).guard = none) :
  ∀ (m s : Nat) (l : List Nat) (listed : Array Bool) (e e' : Env) (a : Act) (w : World), n ≤ s → s ≤ ops.size → m = l.length + (ops.size - s) → l.Pairwise (· < ·) → (∀ k ∈ l, late k = true ∧ k < s) → listed.size = ops.size → Yo ops listed →
   (∀ k, k < ops.size → listed.getD k false = (decide (k < s) && !l.contains k)) → Wf N e a → a.defers = ds → Hr P L ops l e e' → TL P late L ops (fun e w => Q' .normal e ds w) s (ops.toList.drop s) e' w → wpAnyIn (fz ro) 0 P .any ops (Ux N Q') m listed a w
 | 0, s, l, listed, e, e', a, w, hns, hs, hm, hsort, hlate, hsz, hcl, hl, ha, hds, hp, h => by
  have hl0 : l = [] := List.eq_nil_of_length_eq_zero (by omega)
  have hs0 : s = ops.size := by omega
  subst hl0; subst hs0
  rw [List.drop_of_length_le (by simp)] at h
  obtain rfl : e = e' := hp
  refine ⟨?_, ha.size, by rw [ha.eq, hds]; exact h.2⟩
  rw [List.eq_nil_iff_forall_not_mem]
  intro i hi
  rw [Wo] at hi
  have := hl i hi.2.1
  rw [Wp (by omega) false true, hi.1] at this
  simp at this
  omega
 | m + 1, s0, l0, listed, e, e0', a, w, hns0, hs0, hm0, hsort0, hlate0, hsz, hcl, hl0, ha, hds, hp0, h0 => by
  obtain ⟨s, l, e', hns1, hs, hnlate, hm1, hsort, hlate, hl1, hp, h⟩ := R2 (ops.size - s0) s0 l0 e e0' rfl hs0 hsort0 hlate0 hp0 h0
  have hns : n ≤ s := by omega
  have hm : m + 1 = l.length + (ops.size - s) := by omega
  have hl : ∀ k, k < ops.size → listed.getD k false = (decide (k < s) && !l.contains k) := fun k hk => (hl0 k hk).trans (hl1 k).symm
  clear hp0 h0 hl0 hm0 hsort0 hlate0 hns0 hl1
  have hex : ∃ j, j ∈ Region.ready .any ops listed := by
   cases l with
   | cons i0 l0 =>
    have hi0 := (hlate i0 (by simp)).2
    have hi0s : i0 < ops.size := by omega
    refine ⟨i0, Wo.2 ⟨?_, by omega, fun j hj => ?_⟩⟩
    ·rw [Wp (by omega) true false, hl i0 (by omega)]; simp
    ·have hji := (hok i0 (by omega)).2.2 j hj
     rw [hl j (by omega)]
     have hj1 : j < s := by omega
     have hnm : j ∉ i0 :: l0 := fun hm => by
      rcases List.mem_cons.1 hm with h1 | h1
      ·omega
      ·have := (List.pairwise_cons.1 hsort).1 j h1; omega
     simp [hj1]; simpa using hnm
   | nil =>
    have hlt : s < ops.size := by simp at hm; omega
    refine ⟨s, Wo.2 ⟨?_, hlt, fun j hj => ?_⟩⟩
    ·rw [Wp (by omega) true false, hl s hlt]; simp
    ·have := (hok s hlt).2.2 j hj
     rw [hl j (by omega)]; simpa using this
  refine ⟨fun h0 => (by obtain ⟨j, hj⟩ := hex; rw [h0] at hj; cases hj), fun j hj => ?_⟩
  obtain ⟨hj1, hj2, hj3⟩ := Wo.1 hj
  have hoj := We hj2
  have hclose := Yt hok hcl hsz hj2 hj3
  have hnl := hl j hj2
  rw [Wp (by omega) false true, hj1] at hnl
  by_cases hjl : j ∈ l
  ·obtain ⟨l1, l2, rfl⟩ := List.append_of_mem hjl
   have hjn := (hlate j hjl).2
   have hnodup : (l1 ++ j :: l2).Nodup := hsort.imp (fun h => by omega)
   obtain ⟨c, hc, hp'⟩ := Sg (hok j hj2).2.1 l1 e e' (fun i hi => by
    have hij : i < j := (List.pairwise_append.1 hsort).2.2 i hi j (by simp)
    have hnot : ¬ listed.getD i false = true := fun this => by
     rw [hl i (by omega)] at this
     simp [hi] at this
    refine ⟨(hok i (by omega)).2.1, ?_⟩
    rcases Nat.lt_or_ge j n with hjn' | hjn'
    ·exact (hap j hjn' i hij).resolve_left fun hd => hnot (hj3 i hd)
    ·rcases hr j hjn' hj2 i hij with h2 | h2
     ·exact absurd (Q8 hcl (fun j hj => (hok j hj).2.2) _ j i hj2 h2 hj3) hnot
     ·exact h2.2) hp
   have hw : Region.wanted (G7 ops j) (yieldE ops e) = true := by unfold Region.wanted; rw [hg j (hlate j hjl).1 hj2]
   refine K8 hoj (hok j hj2).2.1 ha hw ?_
   unfold doE
   rw [hc w h.lt]
   have hjl12 : j ∉ l1 ++ l2 := by
    rw [List.nodup_append] at hnodup
    intro hm
    rcases List.mem_append.1 hm with h1 | h1
    ·exact hnodup.2.2 j h1 j (by simp) rfl
    ·exact (List.nodup_cons.1 hnodup.2.1).1 h1
   refine Xb hok hap hn hr hg m s (l1 ++ l2) _ _ e' _ w hns hs (by simp at hm ⊢; omega) (hsort.sublist (List.Sublist.append (List.Sublist.refl l1) (List.sublist_cons_self j l2))) (fun k hk => hlate k ?_) (by simp [hsz]) hclose (fun k hk => ?_) (ha.putO (hok j hj2).1 c) (by rw [Q6]; exact hds) hp' h
   ·rcases List.mem_append.1 hk with h1 | h1 <;> simp [h1]
   ·rw [H2 (by omega), hl k hk]
    by_cases hkj : k = j
    ·subst hkj
     have hks : k < s := by omega
     simp [hks]; simpa using hjl12
    ·rw [if_neg hkj]; congr 2; simp [hkj]
  ·have hjs : s ≤ j := by
    rcases Nat.lt_or_ge j s with h1 | h1
    ·have hc0 : l.contains j = false := by simpa using hjl
     rw [hc0] at hnl; simp at hnl; omega
    ·exact h1
   have hjes : j = s := by
    rcases Nat.lt_or_ge s j with h1 | h1
    ·rcases hr j (by omega) hj2 s h1 with h2 | ⟨h2, _⟩
     ·have := Q8 hcl (fun j hj => (hok j hj).2.2) _ j s hj2 h2 hj3
      rw [hl s (by omega)] at this
      simp at this
     ·rcases hnlate with h3 | h3
      ·omega
      ·rw [h3] at h2; cases h2
    ·omega
   subst hjes
   have hap' : ∀ i ∈ l, Wh (G7 ops i) = false ∧ Kb ops (G7 ops i) (G7 ops j) = true := fun i hi => by
    have hil := hlate i hi
    refine ⟨(hok i (by omega)).2.1, ?_⟩
    rcases hr j hns hj2 i (by omega) with h2 | h2
    ·have := Q8 hcl (fun j hj => (hok j hj).2.2) _ j i hj2 h2 hj3
     rw [hl i (by omega)] at this
     simp [hi] at this
    ·exact h2.2
   obtain ⟨k1, k2, k3⟩ := B9 (hok j hj2).2.1 l e e' hap' hp
   have hd : ops.toList.drop j = G7 ops j :: ops.toList.drop (j + 1) := by
    rw [List.drop_eq_getElem_cons (by simpa using hj2)]
    congr 1
    have := We hj2
    rw [Array.getElem?_eq_getElem hj2] at this
    simpa using Option.some.inj this
   rw [hd] at h
   have hnl2 : late j = false := hnlate.resolve_left (by omega)
   simp only [TL, hnl2, Bool.false_eq_true, if_false] at h
   replace h := h.2
   have fin : ∀ (v : Value) (w' : World), TL P late L ops (fun e w => Q' .normal e ds w) (j + 1) (ops.toList.drop (j + 1)) (Te e' (G7 ops j).dst v) w' → wpAnyIn (fz ro) 0 P .any ops (Ux N Q') m (listed.setIfInBounds j true) (a.put (G7 ops j).dst v) w' := fun v w' ht => by
    refine Xb hok hap hn hr hg m (j + 1) l _ _ _ _ w' (by omega) (by omega) (by omega) hsort (fun k hk => ⟨(hlate k hk).1, by have := (hlate k hk).2; omega⟩) (by simp [hsz]) hclose (fun k hk => ?_) (ha.putO (hok j hj2).1 v) (by rw [Q6]; exact hds) (k3 v) ht
    rw [H2 (by omega), hl k hk]
    by_cases hkj : k = j
    ·subst hkj
     have : l.contains k = false := by simpa using hjl
     rw [this]; simp
    ·rw [if_neg hkj]
     have : decide (k < j + 1) = decide (k < j) := by rw [decide_eq_decide]; omega
     rw [this]
   by_cases hw : Region.wanted (G7 ops j) (yieldE ops e) = true
   ·rw [if_pos (by rw [k2]; exact hw)] at h
    refine K8 hoj (hok j hj2).2.1 ha hw ?_
    unfold doE at h ⊢
    rw [k1] at h
    exact Ke (o := G7 ops j) (e := e) (P := P) (w := w) h fin
   ·rw [if_neg (by rw [k2]; exact hw)] at h
    exact Jw hoj ha hw (fin _ _ h)
def Fe (N : Nat) (ops : Array Oper) (n : Nat) (late : List Nat) : Bool :=
 Nat.ble n ops.size &&
 (List.range ops.size).all (fun j => okO N (G7 ops j).dst && !Wh (G7 ops j) && (Gl (G7 ops j)).all (fun k => Nat.blt k j)) &&
 (List.range n).all (fun j => (List.range j).all fun i => (Gl (G7 ops j)).contains i || Kb ops (G7 ops i) (G7 ops j)) &&
 (List.range ops.size).all (fun s => Nat.blt s n || (List.range s).all fun k => Kn ops ops.size s k || (late.contains k && Kb ops (G7 ops k) (G7 ops s))) &&
 late.all (fun k => (G7 ops k).guard.isNone)
theorem Nf {N n : Nat} {ro : Option Nat} {Q' : Kx} {id : Nat} {l : List Oper} {e : Env} {ds : List Deferred} {g : Gh} {w : World} (rel : Gh → World → Gh → World → Prop) (lt : World → Prop) (late : List Nat) (C : To) (Φ : Yw) (hm : P.follows .mixedOrders = true) (hok : Fe N l.toArray n late = true)
  (hC : Up { rel := rel } C) (hC0 : C g { w with drawn := w.drawn + 1 }) (hΦ : ∀ i φ e v, Φ i = some φ → Up { rel := rel } (φ e v)) (hW : WOk l.toArray Φ) (hΦl : ∀ k, late.contains k = true → Φ k = none)
  (h : Lex { rel := rel, late := fun k => late.contains k, lt := lt } P l.toArray C Φ (fun e' _ w' => TL P (fun k => late.contains k) lt l.toArray (fun e w => Q' .normal e ds w) n (l.drop n) e' w') (List.range n) (fun _ _ _ => True) e) : E P N ro (.region id l.toArray true) Q' e ds w := by
 intro a ha hd
 simp only [Fe, Bool.and_eq_true, List.all_eq_true, List.mem_range, Bool.or_eq_true] at hok
 obtain ⟨⟨⟨⟨hn, h1⟩, h2⟩, h3⟩, h4⟩ := hok
 have hn' : n ≤ l.toArray.size := Nat.le_of_ble_eq_true hn
 have hap0 : ∀ j, j < n → ∀ i, i < j → i ∈ Gl (G7 l.toArray j) ∨ Kb l.toArray (G7 l.toArray i) (G7 l.toArray j) = true := fun j hj i hi => (h2 j hj i hi).imp (fun h => by simpa using h) (fun h => h)
 have hr0 : ∀ s, n ≤ s → s < l.toArray.size → ∀ k, k < s → Kn l.toArray l.toArray.size s k = true ∨ (late.contains k = true ∧ Kb l.toArray (G7 l.toArray k) (G7 l.toArray s) = true) := fun s hs hsz k hk =>
  (((h3 s hsz).resolve_left (fun h => by have : s + 1 ≤ n := Nat.le_of_ble_eq_true h; omega)) k hk).imp (fun h => h) (fun h => ⟨h.1, h.2⟩)
 have hok0 : ∀ j, j < l.toArray.size → okO N (G7 l.toArray j).dst = true ∧ Wh (G7 l.toArray j) = false ∧ ∀ k ∈ Gl (G7 l.toArray j), k < j := fun j hj => ⟨(h1 j hj).1.1, by simpa using (h1 j hj).1.2, fun k hk => Nat.le_of_ble_eq_true ((h1 j hj).2 k hk)⟩
 refine wpIn_region_any hm ?_
 have key := S5 (SR := { rel := rel, late := fun k => late.contains k, lt := lt }) (P := P) (ops := l.toArray) (C := C) (Φ := Φ) (Q := fun e' _ w' => TL P (fun k => late.contains k) lt l.toArray (fun e w => Q' .normal e ds w) n (l.drop n) e' w') (N := N) (n := n) (ds := ds) (ro := ro) (Q' := Ux N Q')
  hC hΦ hW hn' hok0 hap0 (fun s hs hsz k hk => (hr0 s hs hsz k (by omega)).imp (fun h => h) (fun h => h.1))
  (fun l' listed F e' g' w' a' hlate hsort hlt hsz hcl hl hall ha' hd' hL => by
   have hpure : ∀ (l' : List Nat) (F : Nat → To) (e' : Env), (∀ k ∈ l', late.contains k = true ∧ k < n) → All C F g' w' → Lex { rel := rel, late := fun k => late.contains k, lt := lt } P l.toArray C Φ (fun e' _ w' => TL P (fun k => late.contains k) lt l.toArray (fun e w => Q' .normal e ds w) n (l.drop n) e' w') l' F e' →
     ∃ e'', Hr P lt l.toArray l' e' e'' ∧ TL P (fun k => late.contains k) lt l.toArray (fun e w => Q' .normal e ds w) n (l.drop n) e'' w' := by
    intro l'
    induction l' with
    | nil => exact fun F e' _ hall hL => ⟨e', rfl, hL g' w' hall⟩
    | cons k l' ih =>
     intro F e' hk hall hL
     obtain ⟨hk1, hk2⟩ := hk k (by simp)
     simp only [Lex, We (show k < l.toArray.size by omega)] at hL
     unfold Wy at hL
     have hw : Region.wanted (G7 l.toArray k) (yieldE l.toArray e') = true := by
      have := h4 k (by simpa using hk1)
      unfold Region.wanted
      cases hgd : (G7 l.toArray k).guard with
      | none => rfl
      | some _ => rw [hgd] at this; cases this
     rw [if_pos hw, hΦl k hk1] at hL
     obtain ⟨c, hc, hL⟩ := hL
     obtain ⟨e'', hp, ht⟩ := ih _ _ (fun j hj => hk j (by simp [hj])) (H0 hall (fun j _ => hall.2 j)) hL
     exact ⟨e'', ⟨c, hc.2 hk1, hp⟩, ht⟩
   obtain ⟨e'', hp, ht⟩ := hpure l' F e' (fun k hk => ⟨hlate k hk, hlt k hk⟩) hall hL
   exact Xb (late := fun k => late.contains k) hok0 hap0 hn' hr0 (fun k hk _ => by
     have := h4 k (by simpa using hk)
     cases hgd : (G7 l.toArray k).guard with
     | none => rfl
     | some _ => rw [hgd] at this; cases this) _ n l' listed e' e'' a' w' (Nat.le_refl _) hn' rfl hsort (fun k hk => ⟨hlate k hk, hlt k hk⟩) hsz hcl hl ha' hd' hp ht)
  n (List.range n) (Array.replicate l.toArray.size false) (fun _ _ _ => True) e g { w with drawn := w.drawn + 1 } a (by simp) List.pairwise_lt_range (fun k hk => by simpa using hk) (by simp)
  (fun k _ hlk => by simp [Array.getD] at hlk) (fun k _ => by simp [Array.getD]) (fun _ _ _ _ => trivial) (fun _ _ _ _ _ _ _ => trivial) ⟨hC0, fun _ => trivial⟩ ha hd h
 have hsize : n + (l.toArray.size - n) = l.toArray.size := by omega
 rw [hsize] at key
 exact key
end
theorem Hp (g : Gh) (w : World) : Ext g w g { w with drawn := w.drawn + 1 } := ⟨⟨rfl, rfl, rfl, Nat.le_refl _, fun _ _ => rfl⟩, fun _ _ => rfl, fun _ _ => rfl⟩
end Go.Proofs.YtmebkoemfjlbcaaGreatDoor
