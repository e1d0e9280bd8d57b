/- A region that draws its order, of which some changing operations come in several orders: a tree of orders. No program is named here. -/
import Derived.Test.YtlmibfohllgmeaaCu
namespace Go.Proofs.Ytlmibfohllgmeaa
open Go.RowKit
inductive OTr where
 | done
 | step (i : Nat) (t : OTr)
 | alt (i : Nat) (t : OTr) (r : OTr)
 | stop
section
variable {P : Program} {ops : Array Oper}
def OTr.has (M : Nat) : OTr → Bool
 | .done => false
 | .step i t => Nat.beq i M || t.has M
 | .alt i t _ => Nat.beq i M || t.has M
 | .stop => false
def AtOp (ops : Array Oper) (i : Nat) (F : Oper → Prop) : Prop := match ops[i]? with | none => False | some o => F o
theorem Hh {i : Nat} {F : Oper → Prop} {o : Oper} (h : ops[i]? = some o) : AtOp ops i F ↔ F o := by unfold AtOp; rw [h]
def CT (P : Program) (cst : Nat → Option Bool) (L : Bool → World → Prop) (ops : Array Oper) (M : Nat) (Q : Env → World → Prop) : OTr → Env → World → Prop
 | .done, e, w => Q e w
 | .step i t, e, w => AtOp ops i fun o => CES P cst L ops i o (t.has M) (CT P cst L ops M Q t) e w
 | .alt i t r, e, w => (AtOp ops i fun o => CES P cst L ops i o (t.has M) (CT P cst L ops M Q t) e w) ∧ CT P cst L ops M Q r e w
 | .stop, _, _ => True
def OTr.rm (cst : Nat → Option Bool) (j : Nat) : OTr → OTr
 | .done => .done
 | .step i t => if i = j then t else .step i (t.rm cst j)
 | .alt i t r => match cst j with
  | some _ => .alt i (t.rm cst j) (r.rm cst j)
  | none => if i = j then t else r.rm cst j
 | .stop => .stop
def okB (cst : Nat → Option Bool) (ops : Array Oper) : OTr → List Nat → Option (List Nat) → Bool
 | .done, rem, none => rem.isEmpty
 | .step i t, rem, none => rem.contains i && (rem.erase i).all (fun k => !Wr ops ops.size i k && (Wr ops ops.size k i || (Kq ops (Tm ops i) (Tm ops k) && ((cst i).isSome || (cst k).isSome)))) && okB cst ops t (rem.erase i) none
 | .alt i t r, rem, k => rem.contains i && (cst i).isNone && (rem.erase i).all (fun k => !Wr ops ops.size i k && ((cst k).isNone || Wr ops ops.size k i || Kq ops (Tm ops i) (Tm ops k))) && okB cst ops t (rem.erase i) none && okB cst ops r rem (some (i :: k.getD []))
 | .stop, rem, some keys => !keys.isEmpty && rem.all (fun j => (cst j).isSome || rem.any (fun k => (cst k).isNone && Wr ops ops.size j k) || keys.contains j)
 | _, _, _ => false
variable {cst : Nat → Option Bool} {L : Bool → World → Prop} {M : Nat} {Q : Env → World → Prop}
theorem Ff {rem : List Nat} {i : Nat} (hi : i ∈ rem) : (Nat.beq i M || (rem.erase i).contains M) = rem.contains M := by
 by_cases h : i = M
 ·subst h; simp [hi, List.contains_eq_mem]
 ·have e1 : Nat.beq i M = false := by
   cases hb : Nat.beq i M with
   | true => exact absurd (Nat.eq_of_beq_eq_true hb) h
   | false => rfl
  rw [e1, Bool.false_or, List.contains_eq_mem, List.contains_eq_mem]
  congr 1
  rw [eq_iff_iff]
  exact List.mem_erase_of_ne (fun e => h e.symm)
theorem Xd : ∀ {t : OTr} {rem : List Nat} {k : Option (List Nat)}, okB cst ops t rem k = true → (k = none ∨ ∃ i t' r, t = .alt i t' r) → t.has M = rem.contains M
 | .done, rem, none, h, _ => by simp only [okB, List.isEmpty_iff] at h; subst h; rfl
 | .done, rem, some _, h, _ => by simp [okB] at h
 | .step i t, rem, none, h, _ => by
  simp only [okB, Bool.and_eq_true, List.contains_eq_mem, decide_eq_true_eq] at h
  rw [OTr.has, Xd h.2 (.inl rfl), Ff h.1.1]
 | .step i t, rem, some _, h, _ => by simp [okB] at h
 | .alt i t r, rem, k, h, _ => by
  simp only [okB, Bool.and_eq_true, List.contains_eq_mem, decide_eq_true_eq] at h
  rw [OTr.has, Xd h.1.2 (.inl rfl), Ff h.1.1.1.1]
 | .stop, rem, none, h, _ => by simp [okB] at h
 | .stop, rem, some _, h, h2 => by
  rcases h2 with h2 | ⟨_, _, _, h2⟩ <;> cases h2
theorem Hl {rem : List Nat} {i j : Nat} (h : j ∈ rem.erase i) : j ∈ rem := List.mem_of_mem_erase h
theorem Rl {j : Nat} : ∀ {t : OTr} {rem : List Nat} {k : Option (List Nat)}, okB cst ops t rem k = true → rem.Nodup → j ∈ rem → (∀ k ∈ rem, Wr ops ops.size j k = false) → (cst j = none → ∀ keys, k = some keys → j ∉ keys) →
  okB cst ops (t.rm cst j) (rem.erase j) (if (cst j).isSome then k else none) = true
 | .done, rem, none, h, _, hj, _, _ => by simp only [okB, List.isEmpty_iff] at h; subst h; cases hj
 | .done, rem, some _, h, _, _, _, _ => by simp [okB] at h
 | .step i t, rem, none, h, hnd, hj, hr, _ => by
  simp only [okB, Bool.and_eq_true, List.contains_eq_mem, decide_eq_true_eq] at h
  obtain ⟨⟨h1, h2⟩, h3⟩ := h
  have e0 : (if (cst j).isSome then (none : Option (List Nat)) else none) = none := by split <;> rfl
  rw [e0]
  unfold OTr.rm
  by_cases hij : i = j
  ·subst hij; rw [if_pos rfl]; exact h3
  ·rw [if_neg hij]
   have hj' : j ∈ rem.erase i := (List.mem_erase_of_ne (fun e => hij e.symm)).2 hj
   have ih := Rl (j := j) h3 (hnd.erase i) hj' (fun k hk => hr k (Hl hk)) (fun _ keys hk => by cases hk)
   rw [e0] at ih
   simp only [okB, Bool.and_eq_true, List.contains_eq_mem, decide_eq_true_eq]
   refine ⟨⟨(List.mem_erase_of_ne hij).2 h1, List.all_eq_true.2 fun k hk => ?_⟩, ?_⟩
   ·rw [List.erase_comm] at hk; exact List.all_eq_true.1 h2 k (Hl hk)
   ·rw [List.erase_comm]; exact ih
 | .step i t, rem, some _, h, _, _, _, _ => by simp [okB] at h
 | .alt i t r, rem, k, h, hnd, hj, hr, hk => by
  simp only [okB, Bool.and_eq_true, List.contains_eq_mem, decide_eq_true_eq] at h
  obtain ⟨⟨⟨⟨h1, h2⟩, h3⟩, h4⟩, h5⟩ := h
  unfold OTr.rm
  cases hc : cst j with
  | some b =>
   have hij : i ≠ j := fun e => by rw [e, hc] at h2; cases h2
   have hj' : j ∈ rem.erase i := (List.mem_erase_of_ne (fun e => hij e.symm)).2 hj
   have ih := Rl (j := j) h4 (hnd.erase i) hj' (fun k hk => hr k (Hl hk)) (fun _ keys hk => by cases hk)
   have ih2 := Rl (j := j) h5 hnd hj hr (fun h => by rw [hc] at h; cases h)
   rw [hc] at ih ih2
   simp only [Option.isSome_some, if_true] at ih ih2 ⊢
   simp only [okB, Bool.and_eq_true, List.contains_eq_mem, decide_eq_true_eq]
   refine ⟨⟨⟨⟨(List.mem_erase_of_ne hij).2 h1, h2⟩, List.all_eq_true.2 fun k hk => ?_⟩, ?_⟩, ih2⟩
   ·rw [List.erase_comm] at hk; exact List.all_eq_true.1 h3 k (Hl hk)
   ·rw [List.erase_comm]; exact ih
  | none =>
   simp only [Option.isSome_none, Bool.false_eq_true, if_false]
   by_cases hij : i = j
   ·subst hij; rw [if_pos rfl]; exact h4
   ·rw [if_neg hij]
    have ih2 := Rl (j := j) h5 hnd hj hr (fun _ keys hk2 => by
     injection hk2 with hk2
     subst hk2
     intro hm
     rcases List.mem_cons.1 hm with h | h
     ·exact hij h.symm
     ·cases k with
      | none => simp at h
      | some keys => exact hk hc keys rfl h)
    rw [hc] at ih2
    exact ih2
 | .stop, rem, none, h, _, _, _, _ => by simp [okB] at h
 | .stop, rem, some keys, h, hnd, hj, hr, hk => by
  simp only [okB, Bool.and_eq_true] at h
  obtain ⟨h1, h2⟩ := h
  cases hc : cst j with
  | none =>
   exfalso
   have := List.all_eq_true.1 h2 j hj
   simp only [hc, Option.isSome_none, Bool.false_or, Bool.or_eq_true, List.any_eq_true, Bool.and_eq_true, List.contains_eq_mem, decide_eq_true_eq] at this
   rcases this with ⟨k, hk1, _, hk3⟩ | h
   ·rw [hr k hk1] at hk3; cases hk3
   ·exact hk hc keys rfl h
  | some b =>
   simp only [Option.isSome_some, if_true, OTr.rm, okB, Bool.and_eq_true]
   refine ⟨h1, List.all_eq_true.2 fun j' hj' => ?_⟩
   have := List.all_eq_true.1 h2 j' (Hl hj')
   simp only [Bool.or_eq_true, List.any_eq_true, Bool.and_eq_true] at this ⊢
   rcases this with (h | ⟨k, hk1, hk2, hk3⟩) | h
   ·exact .inl (.inl h)
   ·refine .inl (.inr ⟨k, (List.mem_erase_of_ne fun e => ?_).2 hk1, hk2, hk3⟩)
    subst e; rw [hc] at hk2; cases hk2
   ·exact .inr h
def Cb (P : Program) (L : Bool → World → Prop) (ops : Array Oper) (b : Bool) (o : Oper) (e : Env) (c : Value) : Prop :=
 if Region.wanted o (yieldE ops e) = true then ∀ w, L b w → (execOp (ev e) o).run P w = .ok (.value c) w else c = undef
theorem Dn {oi oj : Oper} (ap : Df ops oi oj) {b : Bool} {e : Env} {u c : Value} : Cb P L ops b oj (Qg e oi.dst u) c ↔ Cb P L ops b oj e c := by
 unfold Cb; rw [Ws ap.cj, Ki ap.sj ap.cj]
theorem Yv {j : Nat} {oj : Oper} {b : Bool} (hc : cst j = some b) {ph : Bool} {K : Env → World → Prop} {e : Env} {w : World} : CES P cst L ops j oj ph K e w ↔ ∃ c, Cb P L ops b oj e c ∧ K (Qg e oj.dst c) w := by
 unfold CES Cb
 by_cases hw : Region.wanted oj (yieldE ops e) = true
 ·simp only [hw, if_true, hc]
 ·simp only [hw, if_false, Bool.false_eq_true]
  exact ⟨fun h => ⟨_, rfl, h⟩, fun ⟨c, h1, h2⟩ => by subst h1; exact h2⟩
theorem l_at (hLt : ∀ w, L true w → L false w) {rem : List Nat} {b : Bool} (hb : b = true → M ∈ rem) {w : World} (h : L (rem.contains M) w) : L b w := by
 cases b with
 | true =>
  have : rem.contains M = true := by simpa [List.contains_eq_mem] using hb rfl
  rw [this] at h; exact h
 | false =>
  cases hp : rem.contains M with
  | true => rw [hp] at h; exact hLt _ h
  | false => rw [hp] at h; exact h
theorem Dv {i : Nat} {t : OTr} {rem : List Nat} {k : Option (List Nat)} (h : okB cst ops (.step i t) rem k = true) : k = none ∧ i ∈ rem ∧ (∀ k ∈ rem.erase i, Wr ops ops.size i k = false ∧ (Wr ops ops.size k i = true ∨ (Kq ops (Tm ops i) (Tm ops k) = true ∧ ((cst i).isSome = true ∨ (cst k).isSome = true)))) ∧ okB cst ops t (rem.erase i) none = true := by
 cases k with
 | some _ => simp [okB] at h
 | none =>
  simp only [okB, Bool.and_eq_true, List.contains_eq_mem, decide_eq_true_eq, List.all_eq_true, Bool.or_eq_true, Bool.not_eq_true'] at h
  exact ⟨rfl, h.1.1, h.1.2, h.2⟩
theorem St {i : Nat} {t r : OTr} {rem : List Nat} {k : Option (List Nat)} (h : okB cst ops (.alt i t r) rem k = true) : i ∈ rem ∧ cst i = none ∧ (∀ k ∈ rem.erase i, Wr ops ops.size i k = false ∧ ((cst k).isSome = true → Wr ops ops.size k i = true ∨ Kq ops (Tm ops i) (Tm ops k) = true)) ∧ okB cst ops t (rem.erase i) none = true ∧ okB cst ops r rem (some (i :: k.getD [])) = true := by
 simp only [okB, Bool.and_eq_true, List.contains_eq_mem, decide_eq_true_eq, List.all_eq_true, Bool.or_eq_true, Option.isNone_iff_eq_none, Bool.not_eq_true'] at h
 refine ⟨h.1.1.1.1, h.1.1.1.2, fun k hk => ⟨(h.1.1.2 k hk).1, fun hc => ?_⟩, h.1.2, h.2⟩
 rcases (h.1.1.2 k hk).2 with (h1 | h1) | h1
 ·rw [h1] at hc; cases hc
 ·exact .inl h1
 ·exact .inr h1
structure Az (N : Nat) (ops : Array Oper) : Prop where
 ok : ∀ j, j < ops.size → okO N (Tm ops j).dst = true ∧ Kv (Tm ops j) = false ∧ ∀ k ∈ Td (Tm ops j), k < j
theorem Az.apart {N : Nat} (F : Az N ops) {i j : Nat} (hi : i < ops.size) (hj : j < ops.size) (h : Kq ops (Tm ops i) (Tm ops j) = true) : Df ops (Tm ops i) (Tm ops j) := by
 obtain ⟨k1, k2, k3⟩ := Yq h
 exact ⟨k1, k2, k3, (F.ok i hi).2.1, (F.ok j hj).2.1⟩
variable {N n : Nat}
theorem Ar (F : Az N ops) (hLt : ∀ w, L true w → L false w) {j : Nat} {b : Bool} (hc : cst j = some b) (hj : j < ops.size) : ∀ {t : OTr} {rem : List Nat} {k : Option (List Nat)} {e : Env} {w : World}, okB cst ops t rem k = true → (k = none ∨ ∃ i t' r, t = .alt i t' r) → (∀ k ∈ rem, k < ops.size) → rem.Nodup → j ∈ rem →
  (∀ k ∈ rem, Wr ops ops.size j k = false) → CT P cst L ops M Q t e w → ∃ c, Cb P L ops b (Tm ops j) e c
 | .done, rem, k, e, w, h, _, _, _, hjr, _, _ => by
  cases k with
  | none => simp only [okB, List.isEmpty_iff] at h; subst h; cases hjr
  | some _ => simp [okB] at h
 | .stop, rem, k, e, w, h, h2, _, _, _, _, _ => by
  rcases h2 with rfl | ⟨_, _, _, h2⟩
  ·simp [okB] at h
  ·cases h2
 | .step i t, rem, k, e, w, h, _, hsz, hnd, hjr, hr, hct => by
  obtain ⟨_, h1, h2, h3⟩ := Dv h
  have hi := hsz i h1
  unfold CT at hct
  rw [Hh (Wb hi)] at hct
  by_cases hij : i = j
  ·subst hij
   obtain ⟨c, h4, _⟩ := (Yv hc).1 hct
   exact ⟨c, h4⟩
  ·have hjr' : j ∈ rem.erase i := (List.mem_erase_of_ne (fun e => hij e.symm)).2 hjr
   have hap := ((h2 j hjr').2.resolve_left (by rw [hr i h1]; simp)).1
   have ap := F.apart hi hj hap
   have rec_ : ∀ (u : Value) (w' : World), CT P cst L ops M Q t (Qg e (Tm ops i).dst u) w' → ∃ c, Cb P L ops b (Tm ops j) e c := fun u w' h5 => by
    obtain ⟨c, h6⟩ := Ar F hLt hc hj h3 (.inl rfl) (fun k hk => hsz k (Hl hk)) (hnd.erase i) hjr' (fun k hk => hr k (Hl hk)) h5
    exact ⟨c, (Dn ap).1 h6⟩
   cases hci : cst i with
   | some bi =>
    obtain ⟨c, _, h5⟩ := (Yv hci).1 hct
    exact rec_ _ _ h5
   | none =>
    unfold CES at hct
    by_cases hw : Region.wanted (Tm ops i) (yieldE ops e) = true
    ·rw [if_pos hw, hci] at hct
     obtain ⟨v0, w0, _, h5⟩ := Bk hct
     exact rec_ _ _ h5
    ·rw [if_neg hw] at hct
     exact rec_ _ _ hct
 | .alt i t r, rem, k, e, w, h, _, hsz, hnd, hjr, hr, hct => by
  obtain ⟨h1, hci, h2, h3, _⟩ := St h
  have hi := hsz i h1
  unfold CT at hct
  obtain ⟨hct, _⟩ := hct
  rw [Hh (Wb hi)] at hct
  have hij : i ≠ j := fun e => by rw [e, hc] at hci; cases hci
  have hjr' : j ∈ rem.erase i := (List.mem_erase_of_ne (fun e => hij e.symm)).2 hjr
  have hap := ((h2 j hjr').2 (by rw [hc]; rfl)).resolve_left (by rw [hr i h1]; simp)
  have ap := F.apart hi hj hap
  have rec_ : ∀ (u : Value) (w' : World), CT P cst L ops M Q t (Qg e (Tm ops i).dst u) w' → ∃ c, Cb P L ops b (Tm ops j) e c := fun u w' h5 => by
   obtain ⟨c, h6⟩ := Ar F hLt hc hj h3 (.inl rfl) (fun k hk => hsz k (Hl hk)) (hnd.erase i) hjr' (fun k hk => hr k (Hl hk)) h5
   exact ⟨c, (Dn ap).1 h6⟩
  unfold CES at hct
  by_cases hw : Region.wanted (Tm ops i) (yieldE ops e) = true
  ·rw [if_pos hw, hci] at hct
   obtain ⟨v0, w0, _, h5⟩ := Bk hct
   exact rec_ _ _ h5
  ·rw [if_neg hw] at hct
   exact rec_ _ _ hct
theorem Dh {rem : List Nat} {i j : Nat} (h : j ≠ M) : ((rem.erase j).erase i).contains M = (rem.erase i).contains M := by
 rw [List.contains_eq_mem, List.contains_eq_mem]
 congr 1
 rw [List.erase_comm, eq_iff_iff]
 exact List.mem_erase_of_ne (fun e => h e.symm)
theorem Cc (hLt : ∀ w, L true w → L false w) {rem : List Nat} {i : Nat} {w : World} (h : L (rem.contains M) w) : L ((rem.erase i).contains M) w := by
 cases hp : (rem.erase i).contains M with
 | true =>
  have : rem.contains M = true := by
   rw [List.contains_eq_mem] at hp ⊢
   simp only [decide_eq_true_eq] at hp ⊢
   exact Hl hp
  rw [this] at h; exact h
 | false =>
  cases hq : rem.contains M with
  | true => rw [hq] at h; exact hLt _ h
  | false => rw [hq] at h; exact h
theorem Bb (F : Az N ops) (hLt : ∀ w, L true w → L false w) (hM : cst M = none) {j : Nat} {b : Bool} (hc : cst j = some b) (hj : j < ops.size) (hE : b = true → Wr ops ops.size M j = true) : ∀ {t : OTr} {rem : List Nat} {k : Option (List Nat)} {e : Env} {w : World}, okB cst ops t rem k = true → (∀ k ∈ rem, k < ops.size) → rem.Nodup → j ∈ rem →
  (∀ k ∈ rem, Wr ops ops.size j k = false) → (b = true → M ∈ rem) → L (rem.contains M) w → ∀ {c : Value}, Cb P L ops b (Tm ops j) e c → CT P cst L ops M Q t e w → CT P cst L ops M Q (t.rm cst j) (Qg e (Tm ops j).dst c) w
 | .done, rem, k, e, w, h, _, _, hjr, _, _, _, c, _, _ => by
  cases k with
  | none => simp only [okB, List.isEmpty_iff] at h; subst h; cases hjr
  | some _ => simp [okB] at h
 | .stop, rem, k, e, w, h, _, _, hjr, _, _, _, c, _, _ => trivial
 | .step i t, rem, k, e, w, h, hsz, hnd, hjr, hr, hb, hL, c, hcr, hct => by
  obtain ⟨_, h1, h2, h3⟩ := Dv h
  have hi := hsz i h1
  have hjM : j ≠ M := fun e => by rw [e, hM] at hc; cases hc
  unfold CT at hct
  rw [Hh (Wb hi)] at hct
  unfold OTr.rm
  by_cases hij : i = j
  ·subst hij
   rw [if_pos rfl]
   obtain ⟨c1, h4, h5⟩ := (Yv hc).1 hct
   have : c = c1 := by
    unfold Cb at hcr h4
    by_cases hw : Region.wanted (Tm ops i) (yieldE ops e) = true
    ·rw [if_pos hw] at hcr h4
     have hLb := l_at hLt hb hL
     have e1 := hcr w hLb
     rw [h4 w hLb] at e1
     injection e1 with e1; injection e1 with e1; exact e1.symm
    ·rw [if_neg hw] at hcr h4; rw [hcr, h4]
   rw [this]; exact h5
  ·rw [if_neg hij]
   have hjr' : j ∈ rem.erase i := (List.mem_erase_of_ne (fun e => hij e.symm)).2 hjr
   have hap := ((h2 j hjr').2.resolve_left (by rw [hr i h1]; simp)).1
   have ap := F.apart hi hj hap
   have hth : t.has M = (rem.erase i).contains M := Xd h3 (.inl rfl)
   have hrth : (t.rm cst j).has M = ((rem.erase i).erase j).contains M := by
    have := Rl (j := j) h3 (hnd.erase i) hjr' (fun k hk => hr k (Hl hk)) (fun h => by rw [hc] at h; cases h)
    rw [hc] at this
    exact Xd this (.inl (by simp))
   have hph : (t.rm cst j).has M = t.has M := by rw [hrth, hth, List.erase_comm]; exact Dh hjM
   have hb' : b = true → M ∈ rem.erase i := fun hbt => (List.mem_erase_of_ne fun e => by
    have := (h2 j hjr').1
    rw [← e, hE hbt] at this; cases this).2 (hb hbt)
   have rec_ : ∀ (u : Value) (w' : World), L (t.has M) w' → CT P cst L ops M Q t (Qg e (Tm ops i).dst u) w' → CT P cst L ops M Q (t.rm cst j) (Qg (Qg e (Tm ops j).dst c) (Tm ops i).dst u) w' := fun u w' hL' h5 => by
    rw [← Hf ap.dd]
    exact Bb F hLt hM hc hj hE h3 (fun k hk => hsz k (Hl hk)) (hnd.erase i) hjr' (fun k hk => hr k (Hl hk)) hb' (by rw [← hth]; exact hL') ((Dn ap).2 hcr) h5
   unfold CT
   rw [Hh (Wb hi), hph]
   unfold CES at hct ⊢
   rw [Ws ap.ci]
   by_cases hw : Region.wanted (Tm ops i) (yieldE ops e) = true
   ·rw [if_pos hw] at hct ⊢
    cases hci : cst i with
    | some bi =>
     rw [hci] at hct
     obtain ⟨c', h4, h5⟩ := hct
     exact ⟨c', fun w hw => by rw [Ki ap.si ap.ci]; exact h4 w hw, rec_ _ _ (by rw [hth]; exact Cc hLt hL) h5⟩
    | none =>
     rw [hci] at hct
     exact (Vh ap.si ap.ci).2 (Ho hct fun v w' h5 => ⟨h5.1, rec_ _ _ h5.1 h5.2⟩)
   ·rw [if_neg hw] at hct ⊢
    exact rec_ _ _ (by rw [hth]; exact Cc hLt hL) hct
 | .alt i t r, rem, k, e, w, h, hsz, hnd, hjr, hr, hb, hL, c, hcr, hct => by
  obtain ⟨h1, hci, h2, h3, h6⟩ := St h
  have hi := hsz i h1
  have hjM : j ≠ M := fun e => by rw [e, hM] at hc; cases hc
  unfold CT at hct
  obtain ⟨hct, hcr2⟩ := hct
  rw [Hh (Wb hi)] at hct
  have hij : i ≠ j := fun e => by rw [e, hc] at hci; cases hci
  have hjr' : j ∈ rem.erase i := (List.mem_erase_of_ne (fun e => hij e.symm)).2 hjr
  have hap := ((h2 j hjr').2 (by rw [hc]; rfl)).resolve_left (by rw [hr i h1]; simp)
  have ap := F.apart hi hj hap
  have hth : t.has M = (rem.erase i).contains M := Xd h3 (.inl rfl)
  have hrth : (t.rm cst j).has M = ((rem.erase i).erase j).contains M := by
   have := Rl (j := j) h3 (hnd.erase i) hjr' (fun k hk => hr k (Hl hk)) (fun h => by rw [hc] at h; cases h)
   rw [hc] at this
   exact Xd this (.inl (by simp))
  have hph : (t.rm cst j).has M = t.has M := by rw [hrth, hth, List.erase_comm]; exact Dh hjM
  have hb' : b = true → M ∈ rem.erase i := fun hbt => (List.mem_erase_of_ne fun e => by
   have := (h2 j hjr').1
   rw [← e, hE hbt] at this; cases this).2 (hb hbt)
  have rec_ : ∀ (u : Value) (w' : World), L (t.has M) w' → CT P cst L ops M Q t (Qg e (Tm ops i).dst u) w' → CT P cst L ops M Q (t.rm cst j) (Qg (Qg e (Tm ops j).dst c) (Tm ops i).dst u) w' := fun u w' hL' h5 => by
   rw [← Hf ap.dd]
   exact Bb F hLt hM hc hj hE h3 (fun k hk => hsz k (Hl hk)) (hnd.erase i) hjr' (fun k hk => hr k (Hl hk)) hb' (by rw [← hth]; exact hL') ((Dn ap).2 hcr) h5
  have hrest : CT P cst L ops M Q (r.rm cst j) (Qg e (Tm ops j).dst c) w := Bb F hLt hM hc hj hE h6 hsz hnd hjr hr hb hL hcr hcr2
  unfold OTr.rm
  rw [hc]
  simp only
  unfold CT
  refine ⟨?_, hrest⟩
  rw [Hh (Wb hi), hph]
  unfold CES at hct ⊢
  rw [Ws ap.ci]
  by_cases hw : Region.wanted (Tm ops i) (yieldE ops e) = true
  ·rw [if_pos hw, hci] at hct
   rw [if_pos hw, hci]
   exact (Vh ap.si ap.ci).2 (Ho hct fun v w' h5 => ⟨h5.1, rec_ _ _ h5.1 h5.2⟩)
  ·rw [if_neg hw] at hct ⊢
   exact rec_ _ _ (by rw [hth]; exact Cc hLt hL) hct
theorem Lf (F : Az N ops) (hM : cst M = none) {j : Nat} (hc : cst j = none) (hj : j < ops.size) : ∀ {t : OTr} {rem : List Nat} {k : Option (List Nat)} {e : Env} {w : World}, okB cst ops t rem k = true → (∀ k ∈ rem, k < ops.size) → rem.Nodup → j ∈ rem →
  (∀ k ∈ rem, Wr ops ops.size j k = false) → (∀ keys, k = some keys → j ∉ keys) → CT P cst L ops M Q t e w → CES P cst L ops j (Tm ops j) ((rem.erase j).contains M) (CT P cst L ops M Q (t.rm cst j)) e w
 | .done, rem, k, e, w, h, _, _, hjr, _, _, _ => by
  cases k with
  | none => simp only [okB, List.isEmpty_iff] at h; subst h; cases hjr
  | some _ => simp [okB] at h
 | .stop, rem, k, e, w, h, hsz, hnd, hjr, hr, hk, _ => by
  exfalso
  cases k with
  | none => simp [okB] at h
  | some keys =>
   simp only [okB, Bool.and_eq_true] at h
   have := List.all_eq_true.1 h.2 j hjr
   simp only [hc, Option.isSome_none, Bool.false_or, Bool.or_eq_true, List.any_eq_true, Bool.and_eq_true, List.contains_eq_mem, decide_eq_true_eq] at this
   rcases this with ⟨k, hk1, _, hk3⟩ | h
   ·rw [hr k hk1] at hk3; cases hk3
   ·exact hk keys rfl h
 | .step i t, rem, k, e, w, h, hsz, hnd, hjr, hr, _, hct => by
  obtain ⟨_, h1, h2, h3⟩ := Dv h
  have hi := hsz i h1
  unfold CT at hct
  rw [Hh (Wb hi)] at hct
  have hth : t.has M = (rem.erase i).contains M := Xd h3 (.inl rfl)
  unfold OTr.rm
  by_cases hij : i = j
  ·subst hij
   rw [if_pos rfl, ← hth]; exact hct
  ·rw [if_neg hij]
   have hjr' : j ∈ rem.erase i := (List.mem_erase_of_ne (fun e => hij e.symm)).2 hjr
   obtain ⟨hap, hcc⟩ := (h2 j hjr').2.resolve_left (by rw [hr i h1]; simp)
   have ap := F.apart hi hj hap
   have hci : ∃ b, cst i = some b := by
    cases hci : cst i with
    | some b => exact ⟨b, rfl⟩
    | none => rw [hci, hc] at hcc; simp at hcc
   obtain ⟨bi, hci⟩ := hci
   obtain ⟨c, h4, h5⟩ := (Yv hci).1 hct
   have ih := Lf F hM hc hj h3 (fun k hk => hsz k (Hl hk)) (hnd.erase i) hjr' (fun k hk => hr k (Hl hk)) (fun _ h => by cases h) h5
   have hiM : i ≠ M := fun e => by rw [e, hM] at hci; cases hci
   refine Iv ap (fun _ => Dh hiM) (fun v w' h6 => ?_) ih
   unfold CT
   rw [Hh (Wb hi)]
   refine (Yv hci).2 ⟨c, ?_, by rw [← Hf ap.dd]; exact h6⟩
   unfold Cb at h4 ⊢
   rw [Ws ap.ci]
   rw [Ki ap.si ap.ci]; exact h4
 | .alt i t r, rem, k, e, w, h, hsz, hnd, hjr, hr, hk, hct => by
  obtain ⟨h1, hci, h2, h3, h6⟩ := St h
  have hi := hsz i h1
  unfold CT at hct
  obtain ⟨hct, hcr2⟩ := hct
  rw [Hh (Wb hi)] at hct
  have hth : t.has M = (rem.erase i).contains M := Xd h3 (.inl rfl)
  unfold OTr.rm
  rw [hc]
  simp only
  by_cases hij : i = j
  ·subst hij
   rw [if_pos rfl, ← hth]; exact hct
  ·rw [if_neg hij]
   exact Lf F hM hc hj h6 hsz hnd hjr hr (fun keys hk2 => by
    injection hk2 with hk2
    subst hk2
    intro hm
    rcases List.mem_cons.1 hm with h | h
    ·exact hij h.symm
    ·cases k with
     | none => simp at h
     | some keys => exact hk keys rfl h) hcr2
theorem Ml : ∀ {l : List Nat}, l ≠ [] → ∃ i ∈ l, ∀ k ∈ l, i ≤ k
 | [], h => absurd rfl h
 | [a], _ => ⟨a, by simp, fun k hk => by simp at hk; omega⟩
 | a :: b :: l, _ => by
  obtain ⟨i, h1, h2⟩ := Ml (l := b :: l) (by simp)
  by_cases h : a ≤ i
  ·exact ⟨a, by simp, fun k hk => by
    rcases List.mem_cons.1 hk with h3 | h3
    ·omega
    ·have := h2 k h3; omega⟩
  ·exact ⟨i, List.mem_cons_of_mem _ h1, fun k hk => by
    rcases List.mem_cons.1 hk with h3 | h3
    ·omega
    ·exact h2 k h3⟩
theorem Ol {ds : List Deferred} {ro : Option Nat} {Q' : Exit → Act → World → Prop} (F : Az N ops) (hLt : ∀ w, L true w → L false w) (hM : cst M = none) (hn : n ≤ ops.size) (hMn : M < n)
  (hE : ∀ k, cst k = some true → Wr ops ops.size M k = true)
  (hr : ∀ s, n ≤ s → s < ops.size → ∀ k, k < s → Wr ops ops.size s k = true)
  (hQ : ∀ e w, Q e w → ∀ a, Kp N e a → a.defers = ds → wpListIn (fz ro) 0 P ops Q' (ops.toList.drop n) a w) :
  ∀ (c : Nat) (t : OTr) (rem : List Nat) (listed : Array Bool) (e : Env) (w : World) (a : Act), rem.length = c → rem.Nodup → (∀ k ∈ rem, k < n) → okB cst ops t rem none = true → listed.size = ops.size → Uy ops listed →
   (∀ k, k < ops.size → listed.getD k false = (decide (k < n) && !rem.contains k)) → L (rem.contains M) w → Kp N e a → a.defers = ds → CT P cst L ops M Q t e w → wpAnyIn (fz ro) 0 P .any ops Q' (c + (ops.size - n)) listed a w
 | 0, t, rem, listed, e, w, a, hc, _, _, hok, hsz, hcl, hl, _, ha, hds, h => by
  have hrem : rem = [] := List.eq_nil_of_length_eq_zero hc
  subst hrem
  have htd : CT P cst L ops M Q t e w → Q e w := fun h => by
   cases t with
   | done => exact h
   | step i t => have := (Dv hok).2.1; cases this
   | alt i t r => have := (St hok).1; cases this
   | stop => simp [okB] at hok
  rw [Nat.zero_add]
  exact Ds (fun j hj => (F.ok j hj).2.2) hr (ops.size - n) n listed a w (Nat.le_refl _) (by omega) hsz hcl (fun k hk => by rw [hl k hk]; simp) (hQ e w (htd h) a ha hds)
 | c + 1, t, rem, listed, e, w, a, hc, hnd, hlt, hok, hsz, hcl, hl, hL, ha, hds, h => by
  rw [Nat.add_right_comm]
  obtain ⟨i0, hi0m, hi0l⟩ := Ml (l := rem) (fun e => by rw [e] at hc; cases hc)
  have hi0 : i0 < n := hlt i0 hi0m
  have hb := fun j (hj : j < ops.size) => (F.ok j hj).2.2
  have hl' : ∀ k, k < n → (listed.getD k false = true ↔ k ∉ rem) := fun k hk => by rw [hl k (by omega)]; simp [hk, List.contains_eq_mem]
  have hrdy : i0 ∈ Region.ready .any ops listed := by
   refine Ke.2 ⟨?_, by omega, fun j hj => ?_⟩
   ·rw [Wy (by omega) true false, hl i0 (by omega)]; simp [List.contains_eq_mem, hi0m]
   ·have hji := hb i0 (by omega) j hj
    rw [hl' j (by omega)]
    intro hm
    have := hi0l j hm; omega
  refine ⟨fun h0 => (by rw [h0] at hrdy; cases hrdy), fun j hj => ?_⟩
  obtain ⟨hj1, hj2, hj3⟩ := Ke.1 hj
  have hjn : j < n := by
   rcases Nat.lt_or_ge j n with h1 | h1
   ·exact h1
   ·have := Wq hcl hb _ j i0 hj2 (hr j h1 hj2 i0 (by omega)) hj3
    rw [hl i0 (by omega)] at this
    simp [List.contains_eq_mem, hi0m] at this
  have hjr : j ∈ rem := by
   have := hl j hj2
   rw [Wy (by omega) false true, hj1] at this
   simp only [hjn, decide_true, Bool.true_and] at this
   by_cases hm : j ∈ rem
   ·exact hm
   ·simp [List.contains_eq_mem, hm] at this
  have hready : ∀ k ∈ rem, Wr ops ops.size j k = false := fun k hk => by
   cases hre : Wr ops ops.size j k with
   | false => rfl
   | true =>
    have := Wq hcl hb _ j k hj2 hre hj3
    rw [hl k (by have := hlt k hk; omega)] at this
    simp [List.contains_eq_mem, hk] at this
  have hszr : ∀ k ∈ rem, k < ops.size := fun k hk => by have := hlt k hk; omega
  have hok' : okB cst ops (t.rm cst j) (rem.erase j) none = true := by
   have := Rl hok hnd hjr hready (fun _ _ h => by cases h)
   have e0 : (if (cst j).isSome then (none : Option (List Nat)) else none) = none := by split <;> rfl
   rw [e0] at this; exact this
  have hmem : cst j = some true → M ∈ rem := fun hj4 => by
   apply Classical.byContradiction; intro hno
   have h1 : listed.getD M false = true := (hl' M hMn).2 hno
   have h3 := Wq hcl hb _ M j (by omega) (hE j hj4) (fun k hk => hcl M (by omega) h1 k hk)
   rw [Wy (by omega) false true, hj1] at h3; cases h3
  have next : ∀ (v : Value) (w' : World), L ((rem.erase j).contains M) w' → CT P cst L ops M Q (t.rm cst j) (Qg e (Tm ops j).dst v) w' → wpAnyIn (fz ro) 0 P .any ops Q' (c + (ops.size - n)) (listed.setIfInBounds j true) (a.put (Tm ops j).dst v) w' := fun v w' hL' hch => by
   refine Ol F hLt hM hn hMn hE hr hQ c (t.rm cst j) (rem.erase j) _ _ w' _ (by rw [List.length_erase_of_mem hjr]; omega) (hnd.erase j) (fun k hk => hlt k (Hl hk)) hok' (by simp [hsz]) (Vf F.ok hcl hsz hj2 hj3) (fun k hk => ?_) hL' (ha.putO (F.ok j hj2).1 v) (by rw [Hc]; exact hds) hch
   rw [Yf (by omega), hl k hk]
   by_cases hkj : k = j
   ·subst hkj
    have : k ∉ rem.erase k := fun hm => hnd.not_mem_erase hm
    simp [hjn, List.contains_eq_mem, this]
   ·rw [if_neg hkj]; congr 2
    rw [List.contains_eq_mem, List.contains_eq_mem]
    congr 1
    rw [eq_iff_iff]
    exact (List.mem_erase_of_ne hkj).symm
  have hstep : CES P cst L ops j (Tm ops j) ((rem.erase j).contains M) (CT P cst L ops M Q (t.rm cst j)) e w := by
   cases hcj : cst j with
   | none => exact Lf F hM hcj hj2 hok hszr hnd hjr hready (fun _ h => by cases h) h
   | some b =>
    obtain ⟨cv, hcv⟩ := Ar F hLt hcj hj2 hok (.inl rfl) hszr hnd hjr hready h
    exact (Yv hcj).2 ⟨cv, hcv, Bb F hLt hM hcj hj2 (fun hb => hE j (by rw [hcj, hb])) hok hszr hnd hjr hready (fun hb => hmem (by rw [hcj, hb])) hL hcv h⟩
  have hoj := Wb hj2
  unfold CES at hstep
  by_cases hw : Region.wanted (Tm ops j) (yieldE ops e) = true
  ·rw [if_pos hw] at hstep
   refine Jg hoj (F.ok j hj2).2.1 ha hw ?_
   cases hlj : cst j with
   | some b =>
    rw [hlj] at hstep
    obtain ⟨v, hv, hch⟩ := hstep
    have hLb : L b w := l_at hLt (fun hb => hmem (by rw [hlj, hb])) hL
    unfold doE
    rw [hv w hLb]
    exact next v w (Cc hLt hL) hch
   | none =>
    rw [hlj] at hstep
    exact Ho hstep fun v w' h2 => next v w' h2.1 h2.2
  ·rw [if_neg hw] at hstep
   exact Ue hoj ha hw (next undef w (Cc hLt hL) hstep)
end
def ctOk (N : Nat) (ops : Array Oper) (n M : Nat) (late early : List Nat) (t : OTr) : Bool :=
 Nat.ble n ops.size && Nat.blt M n && !(late.contains M) && !(early.contains M) && early.all (fun k => Wr ops ops.size M k) &&
 (List.range ops.size).all (fun j => okO N (Tm ops j).dst && !Kv (Tm ops j) && (Td (Tm ops j)).all (fun k => Nat.blt k j)) &&
 (List.range ops.size).all (fun s => Nat.blt s n || (List.range s).all fun k => Wr ops ops.size s k) && okB (Jd late early) ops t (List.range n) none
theorem Oq {P : Program} {N n : Nat} {ro : Option Nat} {Q' : Jt} {id : Nat} {l : List Oper} {e : Env} {ds : List Deferred} {g : Gh} {w : World} (lates earlies V U : List Nat) (M : Nat) (t : OTr) (hm : P.follows .mixedOrders = true) (hok : ctOk N l.toArray n M lates earlies t = true) (hu : U.all (fun u => V.contains u) = true)
  (h : ∀ w', Ext g w g w' → LTg V g w g w' → CT P (Jd lates earlies) (fun b => LTw (cond b V U) g w) l.toArray M (fun e' w' => EL P N ro l.toArray (l.drop n) Q' e' ds w') t e w') : E P N ro (.region id l.toArray true) Q' e ds w := by
 intro a ha hd
 simp only [ctOk, Bool.and_eq_true, List.all_eq_true, List.mem_range, Bool.or_eq_true, Bool.not_eq_true'] at hok
 obtain ⟨⟨⟨⟨⟨⟨⟨hn, hMn⟩, hM1⟩, hM2⟩, hE⟩, h1⟩, h3⟩, hT⟩ := hok
 have hn' : n ≤ l.toArray.size := Nat.le_of_ble_eq_true hn
 have hMn' : M < n := Nat.le_of_ble_eq_true hMn
 have hr0 : ∀ s, n ≤ s → s < l.toArray.size → ∀ k, k < s → Wr l.toArray l.toArray.size s k = true := fun s hs hsz k hk => ((h3 s hsz).resolve_left (fun h => by have : s + 1 ≤ n := Nat.le_of_ble_eq_true h; omega)) k hk
 have F : Az N l.toArray := ⟨fun j hj => ⟨(h1 j hj).1.1, (h1 j hj).1.2, fun k hk => Nat.le_of_ble_eq_true ((h1 j hj).2 k hk)⟩⟩
 refine wpIn_region_any hm ?_
 have hlt : LTg V g w g { w with drawn := w.drawn + 1 } := LTg.start.ext (Jq g w)
 have hLM : ((List.range n).contains M) = true := by simp [List.contains_eq_mem, hMn']
 have key := Ol (P := P) (ops := l.toArray) (cst := Jd lates earlies) (L := fun b => LTw (cond b V U) g w) (M := M) (Q := fun e' w' => EL P N ro l.toArray (l.drop n) Q' e' ds w') (N := N) (n := n) (ds := ds) (ro := ro) (Q' := Xv N Q')
  F (fun w' h => h.weak hu) (by unfold Jd; rw [hM1, hM2]; rfl) hn' hMn'
  (fun k hk => by
   unfold Jd at hk
   cases h4 : lates.contains k with
   | true => rw [h4] at hk; cases hk
   | false =>
    cases h5 : earlies.contains k with
    | true => exact hE k (by simpa using h5)
    | false => rw [h4, h5] at hk; cases hk)
  hr0 (fun e' w' hL a' ha' hd' => hL a' ha' hd')
  n t (List.range n) (Array.replicate l.toArray.size false) e { w with drawn := w.drawn + 1 } a (by simp) List.nodup_range (fun k hk => by simpa using hk) hT (by simp)
  (fun k _ hlk => by simp [Array.getD] at hlk) (fun k _ => by simp [Array.getD]) (by simp only [hLM]; exact hlt.toW) ha hd (h _ (Jq g w) hlt)
 have hsize : n + (l.toArray.size - n) = l.toArray.size := by omega
 rw [hsize] at key
 exact key
section
variable {P : Program} {ops : Array Oper} {ls es V U : List Nat} {M : Nat} {g0 : Gh} {w0 : World} {Q : Env → World → Prop} {i : Nat} {t r : OTr} {e : Env} {w : World} {op : Op} {ty : TypeId} {pos : String} {af : Array Edge} {gd : Option (Nat × Bool)} {d : Option Tmp}
theorem Ez (h : Q e w) : CT P (Jd ls es) (fun b => LTw (cond b V U) g0 w0) ops M Q .done e w := h
theorem Ec (h : CT P (Jd ls es) (fun b => LTw (cond b V U) g0 w0) ops M Q (.step i t) e w) (h2 : CT P (Jd ls es) (fun b => LTw (cond b V U) g0 w0) ops M Q r e w) : CT P (Jd ls es) (fun b => LTw (cond b V U) g0 w0) ops M Q (.alt i t r) e w := ⟨h, h2⟩
theorem CT_stop : CT P (Jd ls es) (fun b => LTw (cond b V U) g0 w0) ops M Q .stop e w := trivial
theorem Il {c : Value} {b : Bool} (ho : ops[i]? = some ⟨d, op, ty, pos, af, gd⟩) (hl : Jd ls es i = some b) (hw : Wants ops e gd true) (hc : ∀ w, LTw (cond b V U) g0 w0 w → (execOp (ev e) ⟨d, op, ty, pos, af, gd⟩).run P w = .ok (.value c) w) (h : CT P (Jd ls es) (fun b => LTw (cond b V U) g0 w0) ops M Q t (Qg e d c) w) : CT P (Jd ls es) (fun b => LTw (cond b V U) g0 w0) ops M Q (.step i t) e w := by
 have hw' : Region.wanted ⟨d, op, ty, pos, af, gd⟩ (yieldE ops e) = true := Wants.yieldE (o := ⟨d, op, ty, pos, af, gd⟩) hw
 unfold CT; rw [Hh ho]; simp only [CES, hw', if_true, hl]; exact ⟨c, hc, h⟩
theorem Bs {c : Value} (ho : ops[i]? = some ⟨d, op, ty, pos, af, gd⟩) (hl : Jd ls es i = some false) (hw : Wants ops e gd true) (hc : Pur P op e c) (h : CT P (Jd ls es) (fun b => LTw (cond b V U) g0 w0) ops M Q t (Qg e d c) w) : CT P (Jd ls es) (fun b => LTw (cond b V U) g0 w0) ops M Q (.step i t) e w :=
 Il ho hl hw (fun w _ => hc _ _ _ _ _ w) h
theorem CT_ldO (b : Bool) {n : Nat} {c p : Value} {x : Operand} {t' : TypeId} (ho : ops[i]? = some ⟨d, .load t' x, ty, pos, af, gd⟩) (hl : Jd ls es i = some b) (hw : Wants ops e gd true)
  (hld : ∀ (e : Env) (g : Gh) (w : World), (Ch g0.m w0 g.m w ∧ ∀ b, b < w0.heap.size → g0.o b = n → w.heap[b]? = w0.heap[b]?) → ev e x = p → ∀ d ty pos af gd, (execOp (ev e) ⟨d, .load t' x, ty, pos, af, gd⟩).run P w = .ok (.value c) w) (hx : ev e x = p) (hn : (cond b V U).contains n = true)
  (h : CT P (Jd ls es) (fun b => LTw (cond b V U) g0 w0) ops M Q t (Qg e d c) w) : CT P (Jd ls es) (fun b => LTw (cond b V U) g0 w0) ops M Q (.step i t) e w :=
 Il ho hl hw (fun w h => let ⟨g, hg⟩ := h.blk hn; hld e g w hg hx _ _ _ _ _) h
theorem Ms (X : List Nat) (ho : ops[i]? = some ⟨d, op, ty, pos, af, gd⟩) (hl : Jd ls es i = none) (hX : cond (t.has M) V U = X) (hw : Wants ops e gd true) (h : Doe P op e w fun v w' => LTw X g0 w0 w' ∧ CT P (Jd ls es) (fun b => LTw (cond b V U) g0 w0) ops M Q t (Qg e d v) w') : CT P (Jd ls es) (fun b => LTw (cond b V U) g0 w0) ops M Q (.step i t) e w := by
 have hw' : Region.wanted ⟨d, op, ty, pos, af, gd⟩ (yieldE ops e) = true := Wants.yieldE (o := ⟨d, op, ty, pos, af, gd⟩) hw
 unfold CT; rw [Hh ho]; simp only [CES, hw', if_true, hl]; rw [hX]; exact h _ _ _ _ _
end
end Go.Proofs.Ytlmibfohllgmeaa
