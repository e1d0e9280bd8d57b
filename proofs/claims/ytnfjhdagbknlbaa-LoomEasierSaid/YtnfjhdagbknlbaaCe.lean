/- A region that draws its order, whose changing operations come in one order; some loads come before one of them, the operation M. No program is named here. -/
import Derived.Test.YtnfjhdagbknlbaaAw
namespace Go.Proofs.Ytnfjhdagbknlbaa
open Go.RowKit
section
variable {P : Program} {ops : Array Oper}
def CES (P : Program) (cst : Nat → Option Bool) (L : Bool → World → Prop) (ops : Array Oper) (i : Nat) (o : Oper) (ph : Bool) (K : Env → World → Prop) (e : Env) (w : World) : Prop :=
 if Region.wanted o (yieldE ops e) = true then
  match cst i with
  | some b => ∃ c, (∀ w, L b w → (execOp (ev e) o).run P w = .ok (.value c) w) ∧ K (updO e o.dst c) w
  | none => doE P o e w fun v w' => L ph w' ∧ K (updO e o.dst v) w'
 else K (updO e o.dst undef) w
def CE (P : Program) (cst : Nat → Option Bool) (L : Bool → World → Prop) (ops : Array Oper) (M : Nat) (Q : Env → World → Prop) : List Nat → Env → World → Prop
 | [], e, w => Q e w
 | i :: l, e, w => match ops[i]? with
  | none => False
  | some o => CES P cst L ops i o (l.contains M) (CE P cst L ops M Q l) e w
variable {cst : Nat → Option Bool} {L : Bool → World → Prop} {M : Nat} {Q : Env → World → Prop}
theorem ces_move {j : Nat} {oi oj : Oper} (ap : ApartC ops oi oj) {u : Value} {p1 p2 : Bool} {K1 K2 : Env → World → Prop} {e : Env} {w : World} (hp : cst j = none → p1 = p2) (hk : ∀ v w', K1 (updO (updO e oi.dst u) oj.dst v) w' → K2 (updO e oj.dst v) w') (h : CES P cst L ops j oj p1 K1 (updO e oi.dst u) w) : CES P cst L ops j oj p2 K2 e w := by
 unfold CES at h ⊢
 rw [want_upd ap.cj, exec_upd ap.sj ap.cj] at h
 by_cases hw : Region.wanted oj (yieldE ops e) = true
 ·rw [if_pos hw] at h ⊢
  cases hl : cst j with
  | some b =>
   rw [hl] at h
   obtain ⟨c, h1, h2⟩ := h
   exact ⟨c, h1, hk _ _ h2⟩
  | none =>
   rw [hl] at h
   rw [← hp hl]
   exact doE_mono ((doE_upd ap.sj ap.cj).1 h) fun v w' h2 => ⟨h2.1, hk _ _ h2.2⟩
 ·rw [if_neg hw] at h ⊢
  exact hk _ _ h
theorem has_app {l1 l2 : List Nat} {j : Nat} (h : j ≠ M) : (l1 ++ j :: l2).contains M = (l1 ++ l2).contains M := by
 have : (M == j) = false := by simpa using fun e : M = j => h e.symm
 simp [List.contains_eq_mem, List.mem_append, h.symm]
theorem has_pre {l1 l2 : List Nat} (h : M ∉ l1) : (l1 ++ l2).contains M = l2.contains M := by
 simp [List.contains_eq_mem, List.mem_append, h]
theorem ce_take (hLt : ∀ w, L true w → L false w) (hM : cst M = none) {j : Nat} {oj : Oper} (hoj : ops[j]? = some oj) {l2 : List Nat} : ∀ (l1 : List Nat) (e : Env) (w : World), (∀ i ∈ l1, ∃ oi, ops[i]? = some oi ∧ ApartC ops oi oj) →
  ((∃ b, cst j = some b ∧ (b = true → M ∈ l2)) ∨ ∀ i ∈ l1, ∃ b, cst i = some b) → CE P cst L ops M Q (l1 ++ j :: l2) e w → CES P cst L ops j oj ((l1 ++ l2).contains M) (CE P cst L ops M Q (l1 ++ l2)) e w
 | [], e, w, _, _, h => by simpa only [List.nil_append, CE, hoj] using h
 | i :: l1, e, w, hap, hlj, h => by
  obtain ⟨oi, hoi, ap⟩ := hap i (by simp)
  have hap' : ∀ k ∈ l1, ∃ ok, ops[k]? = some ok ∧ ApartC ops ok oj := fun k hk => hap k (by simp [hk])
  have hlj' : (∃ b, cst j = some b ∧ (b = true → M ∈ l2)) ∨ ∀ k ∈ l1, ∃ b, cst k = some b := hlj.imp id fun h k hk => h k (by simp [hk])
  have hph : cst j = none → (l1 ++ l2).contains M = (i :: l1 ++ l2).contains M := fun hj => by
   have h1 : ∀ k ∈ i :: l1, ∃ b, cst k = some b := hlj.resolve_left fun ⟨b, hb, _⟩ => by rw [hj] at hb; cases hb
   have h2 : M ∉ i :: l1 := fun hm => by obtain ⟨b, hb⟩ := h1 M hm; rw [hM] at hb; cases hb
   rw [has_pre h2, has_pre fun hm => h2 (List.mem_cons_of_mem _ hm)]
  simp only [List.cons_append, CE, hoi] at h
  unfold CES at h
  by_cases hwi : Region.wanted oi (yieldE ops e) = true
  ·rw [if_pos hwi] at h
   cases hli : cst i with
   | some bi =>
    rw [hli] at h
    obtain ⟨c, hc, h⟩ := h
    refine ces_move ap hph (fun v w' h2 => ?_) (ce_take hLt hM hoj l1 _ w hap' hlj' h)
    simp only [List.cons_append, CE, hoi]
    unfold CES
    rw [want_upd ap.ci, if_pos hwi, hli]
    simp only
    refine ⟨c, fun w hw => ?_, by rw [← updO_comm ap.dd]; exact h2⟩
    rw [exec_upd ap.si ap.ci]; exact hc w hw
   | none =>
    rw [hli] at h
    simp only at h
    obtain ⟨b, hj, hjM⟩ := hlj.resolve_right fun h2 => by obtain ⟨b, hb⟩ := h2 i (by simp); rw [hli] at hb; cases hb
    have hjne : j ≠ M := fun e1 => by rw [e1, hM] at hj; cases hj
    have each : doE P oi e w fun v w' => L ((l1 ++ l2).contains M) w' ∧ L b w' ∧ CES P cst L ops j oj ((l1 ++ l2).contains M) (CE P cst L ops M Q (l1 ++ l2)) (updO e oi.dst v) w' := doE_mono h fun v w' h2 => by
     have h3 := h2.1
     have h4 := h3
     rw [has_app hjne] at h4
     refine ⟨h4, ?_, ce_take hLt hM hoj l1 _ w' hap' hlj' h2.2⟩
     cases b with
     | true =>
      have : (l1 ++ j :: l2).contains M = true := by simp [List.contains_eq_mem, hjM rfl]
      rw [this] at h3; exact h3
     | false =>
      cases hp : (l1 ++ j :: l2).contains M with
      | true => rw [hp] at h3; exact hLt _ h3
      | false => rw [hp] at h3; exact h3
    have back : ∀ (u : Value), (doE P oi e w fun v w' => L ((l1 ++ l2).contains M) w' ∧ CE P cst L ops M Q (l1 ++ l2) (updO (updO e oi.dst v) oj.dst u) w') → CE P cst L ops M Q (i :: l1 ++ l2) (updO e oj.dst u) w := fun u h2 => by
     simp only [List.cons_append, CE, hoi]
     unfold CES
     rw [want_upd ap.ci, if_pos hwi, hli]
     simp only
     refine (doE_upd ap.si ap.ci).2 (doE_mono h2 fun v w' h3 => ⟨h3.1, ?_⟩)
     rw [← updO_comm ap.dd]; exact h3.2
    unfold CES at each ⊢
    by_cases hwj : Region.wanted oj (yieldE ops e) = true
    ·rw [if_pos hwj, hj]
     simp only
     obtain ⟨v0, w0, _, hL0, h0⟩ := doE_some each
     rw [want_upd ap.cj, if_pos hwj, hj] at h0
     simp only at h0
     obtain ⟨c0, hc0, _⟩ := h0
     rw [exec_upd ap.sj ap.cj] at hc0
     refine ⟨c0, hc0, back _ (doE_mono each fun v w' h3 => ⟨h3.1, ?_⟩)⟩
     have h4 := h3.2.2
     rw [want_upd ap.cj, if_pos hwj, hj] at h4
     simp only at h4
     obtain ⟨c1, hc1, h5⟩ := h4
     rw [exec_upd ap.sj ap.cj] at hc1
     have e1 := hc1 w' h3.2.1
     rw [hc0 w' h3.2.1] at e1
     injection e1 with e1
     injection e1 with e1
     rw [e1]; exact h5
    ·rw [if_neg hwj]
     refine back _ (doE_mono each fun v w' h3 => ⟨h3.1, ?_⟩)
     have h4 := h3.2.2
     rw [want_upd ap.cj, if_neg hwj] at h4
     exact h4
  ·rw [if_neg hwi] at h
   refine ces_move ap hph (fun v w' h2 => ?_) (ce_take hLt hM hoj l1 _ w hap' hlj' h)
   simp only [List.cons_append, CE, hoi]
   unfold CES
   rw [want_upd ap.ci, if_neg hwi, ← updO_comm ap.dd]
   exact h2
def ceOk (N : Nat) (ops : Array Oper) (n M : Nat) (late early : List Nat) : Bool :=
 chOk N ops n (late ++ early) && Nat.blt M n && !(late.contains M) && !(early.contains M) && early.all (fun k => Nat.blt k M && reach ops ops.size M k)
def cstOf (late early : List Nat) (k : Nat) : Option Bool := bif late.contains k then some false else bif early.contains k then some true else none
theorem any_ce {N n : Nat} {ds : List Deferred} {ro : Option Nat} {Q' : Exit → Act → World → Prop} (hLt : ∀ w, L true w → L false w) (hM : cst M = none) (hMn : M < n) (hn : n ≤ ops.size)
  (hE : ∀ k, cst k = some true → k < M ∧ reach ops ops.size M k = true)
  (hok : ∀ j, j < ops.size → okO N (opAt ops j).dst = true ∧ isSel (opAt ops j) = false ∧ ∀ k ∈ directOf (opAt ops j), k < j)
  (hap : ∀ j, j < n → ∀ i, i < j → reach ops ops.size j i = true ∨ (apartB ops (opAt ops i) (opAt ops j) = true ∧ ((∃ b, cst i = some b) ∨ ∃ b, cst j = some b)))
  (hr : ∀ s, n ≤ s → s < ops.size → ∀ k, k < s → reach ops ops.size s k = true)
  (hQ : ∀ e w, Q e w → ∀ a, IsEnv N e a → a.defers = ds → wpListIn (fz ro) 0 P ops Q' (ops.toList.drop n) a w) :
  ∀ (c : Nat) (l : List Nat) (listed : Array Bool) (e : Env) (w : World) (a : Act), l.length = c → l.Pairwise (· < ·) → (∀ k ∈ l, k < n) → listed.size = ops.size → Closed ops listed →
   (∀ k, k < ops.size → listed.getD k false = (decide (k < n) && !l.contains k)) → L (l.contains M) w → IsEnv N e a → a.defers = ds → CE P cst L ops M Q l e w → wpAnyIn (fz ro) 0 P .any ops Q' (c + (ops.size - n)) listed a w
 | 0, [], listed, e, w, a, _, _, _, hsz, hcl, hl, _, ha, hds, h => by
  rw [Nat.zero_add]
  exact any_tail (fun j hj => (hok j hj).2.2) hr (ops.size - n) n listed a w (Nat.le_refl _) (by omega) hsz hcl (fun k hk => by rw [hl k hk]; simp) (hQ e w h a ha hds)
 | 0, _ :: _, _, _, _, _, hc, _, _, _, _, _, _, _, _, _ => by simp at hc
 | c + 1, [], _, _, _, _, hc, _, _, _, _, _, _, _, _, _ => by simp at hc
 | c + 1, i0 :: l0, listed, e, w, a, hc, hsort, hlt, hsz, hcl, hl, hL, ha, hds, h => by
  rw [Nat.add_right_comm]
  have hi0 : i0 < n := hlt i0 (by simp)
  have hb := fun j (hj : j < ops.size) => (hok j hj).2.2
  have hl' : ∀ k, k < n → (listed.getD k false = true ↔ k ∉ i0 :: l0) := fun k hk => by rw [hl k (by omega)]; simp [hk]
  have hrdy : i0 ∈ Region.ready .any ops listed := by
   refine ready_iff.2 ⟨?_, by omega, fun j hj => ?_⟩
   ·rw [getD_size (by omega) true false, hl i0 (by omega)]; simp
   ·have hji := hb i0 (by omega) j hj
    rw [hl' j (by omega)]
    intro hm
    rcases List.mem_cons.1 hm with h1 | h1
    ·omega
    ·have := (List.pairwise_cons.1 hsort).1 j h1; omega
  refine ⟨fun h0 => (by rw [h0] at hrdy; cases hrdy), fun j hj => ?_⟩
  obtain ⟨hj1, hj2, hj3⟩ := ready_iff.1 hj
  have hjn : j < n := by
   rcases Nat.lt_or_ge j n with h1 | h1
   ·exact h1
   ·have := reach_listed hcl hb _ j i0 hj2 (hr j h1 hj2 i0 (by omega)) hj3
    rw [hl i0 (by omega)] at this
    simp at this
  have hjl : j ∈ i0 :: l0 := by
   have := hl j hj2
   rw [getD_size (by omega) false true, hj1] at this
   simp only [hjn, decide_true, Bool.true_and] at this
   by_cases hm : j ∈ i0 :: l0
   ·exact hm
   ·simp [hm] at this
  generalize i0 :: l0 = l at *
  obtain ⟨l1, l2, rfl⟩ := List.append_of_mem hjl
  have hoj := opAt_some hj2
  have hsel := fun k (hk : k < ops.size) => (hok k hk).2.1
  have hnr : ∀ i ∈ l1, reach ops ops.size j i = false ∧ i < j := fun i hi => by
   have hij : i < j := (List.pairwise_append.1 hsort).2.2 i hi j (by simp)
   refine ⟨?_, hij⟩
   cases hre : reach ops ops.size j i with
   | false => rfl
   | true =>
    have := reach_listed hcl hb _ j i hj2 hre hj3
    rw [hl i (by omega)] at this
    simp [hi] at this
  have hap2 : ∀ i ∈ l1, apartB ops (opAt ops i) (opAt ops j) = true ∧ ((∃ b, cst i = some b) ∨ ∃ b, cst j = some b) := fun i hi => (hap j hjn i (hnr i hi).2).resolve_left (by rw [(hnr i hi).1]; simp)
  have hap' : ∀ i ∈ l1, ∃ oi, ops[i]? = some oi ∧ ApartC ops oi (opAt ops j) := fun i hi => by
   have hij := (hnr i hi).2
   obtain ⟨k1, k2, k3⟩ := apartB_parts (hap2 i hi).1
   exact ⟨_, opAt_some (by omega), k1, k2, k3, hsel i (by omega), hsel j hj2⟩
  have hnodup : (l1 ++ j :: l2).Nodup := hsort.imp (fun h => by omega)
  have hmem : cst j = some true → M ∈ l2 := fun hj => by
   obtain ⟨e1, e2⟩ := hE j hj
   have hin : M ∈ l1 ++ j :: l2 := by
    apply Classical.byContradiction; intro hno
    have h1 : listed.getD M false = true := by rw [hl M (by omega), List.contains_eq_mem]; simp [hno, hMn]
    have h2 := hcl
    have h3 := reach_listed hcl hb _ M j (by omega) e2 (fun k hk => by
     have := h2 M (by omega) h1
     exact this k hk)
    rw [getD_size (by omega) false true, hj1] at h3; cases h3
   rcases List.mem_append.1 hin with h1 | h1
   ·have := (hnr M h1).2; omega
   ·rcases List.mem_cons.1 h1 with h1 | h1
    ·omega
    ·exact h1
  have hlate : (∃ b, cst j = some b ∧ (b = true → M ∈ l2)) ∨ ∀ i ∈ l1, ∃ b, cst i = some b := by
   cases hj : cst j with
   | some b => exact .inl ⟨b, rfl, fun hb => hmem (by rw [hj, hb])⟩
   | none => exact .inr fun i hi => (hap2 i hi).2.resolve_right fun ⟨b, hb⟩ => by rw [hj] at hb; cases hb
  have hstep := ce_take hLt hM hoj l1 e w hap' hlate h
  have hlen : (l1 ++ l2).length = c := by simp at hc ⊢; omega
  have hmono : L ((l1 ++ l2).contains M) w := by
   by_cases hjM : j = M
   ·cases hp : (l1 ++ l2).contains M with
    | true =>
     subst hjM
     rw [List.nodup_append] at hnodup
     have h1 : j ∈ l1 ++ l2 := by simpa [List.contains_eq_mem] using hp
     rcases List.mem_append.1 h1 with h2 | h2
     ·exact (hnodup.2.2 j h2 j (by simp) rfl).elim
     ·exact ((List.nodup_cons.1 hnodup.2.1).1 h2).elim
    | false =>
     cases hq : (l1 ++ j :: l2).contains M with
     | true => rw [hq] at hL; exact hLt _ hL
     | false => rw [hq] at hL; exact hL
   ·rw [← has_app hjM]; exact hL
  have next : ∀ (v : Value) (w' : World), L ((l1 ++ l2).contains M) w' → CE P cst L ops M Q (l1 ++ l2) (updO e (opAt ops j).dst v) w' → wpAnyIn (fz ro) 0 P .any ops Q' (c + (ops.size - n)) (listed.setIfInBounds j true) (a.put (opAt ops j).dst v) w' := fun v w' hL' hch => by
   have hjl12 : j ∉ l1 ++ l2 := by
    rw [List.nodup_append] at hnodup
    intro hm
    rcases List.mem_append.1 hm with h1 | h1
    ·exact hnodup.2.2 j h1 j (by simp) rfl
    ·exact (List.nodup_cons.1 hnodup.2.1).1 h1
   refine any_ce hLt hM hMn hn hE hok hap hr hQ c (l1 ++ l2) _ _ w' _ hlen ?_ (fun k hk => hlt k ?_) (by simp [hsz]) (closed_set hok hcl hsz hj2 hj3) (fun k hk => ?_) hL' (ha.putO (hok j hj2).1 v) (by rw [put_defers]; exact hds) hch
   ·exact hsort.sublist (List.Sublist.append (List.Sublist.refl l1) (List.sublist_cons_self j l2))
   ·rcases List.mem_append.1 hk with h1 | h1 <;> simp [h1]
   ·rw [getD_set (by omega), hl k hk]
    by_cases hkj : k = j
    ·subst hkj; simp [hjn]; simpa using hjl12
    ·rw [if_neg hkj]; congr 2; simp [hkj]
  unfold CES at hstep
  by_cases hw : Region.wanted (opAt ops j) (yieldE ops e) = true
  ·rw [if_pos hw] at hstep
   refine wpOpIn_of_doE hoj (hsel j hj2) ha hw ?_
   cases hlj : cst j with
   | some b =>
    rw [hlj] at hstep
    obtain ⟨v, hv, hch⟩ := hstep
    have hLb : L b w := by
     cases b with
     | true =>
      have : (l1 ++ j :: l2).contains M = true := by simp [List.contains_eq_mem, hmem hlj]
      rw [this] at hL; exact hL
     | false =>
      cases hp : (l1 ++ j :: l2).contains M with
      | true => rw [hp] at hL; exact hLt _ hL
      | false => rw [hp] at hL; exact hL
    unfold doE
    rw [hv w hLb]
    exact next v w hmono hch
   | none =>
    rw [hlj] at hstep
    exact doE_mono hstep fun v w' h2 => next v w' h2.1 h2.2
  ·rw [if_neg hw] at hstep
   exact wpOpIn_skip hoj ha hw (next undef w hmono hstep)
end
theorem LTg.weak {V U : List Nat} {g0 g : Gh} {w0 w : World} (h : LTg V g0 w0 g w) (hu : U.all (fun u => V.contains u) = true) : LTg U g0 w0 g w :=
 ⟨h.1, fun b hb hc => h.2 b hb (by rw [List.all_eq_true] at hu; exact hu _ (by simpa using hc))⟩
theorem LTw.weak {V U : List Nat} {g0 : Gh} {w0 w : World} (h : LTw V g0 w0 w) (hu : U.all (fun u => V.contains u) = true) : LTw U g0 w0 w := let ⟨g, h⟩ := h; ⟨g, h.weak hu⟩
theorem E_drawE {P : Program} {N n : Nat} {ro : Option Nat} {Q' : Post} {id : Nat} {l : List Oper} {e : Env} {ds : List Deferred} {g : Gh} {w : World} (lates earlies V U : List Nat) (M : Nat) (ix : List Nat) (hix : ix = List.range n) (hm : P.follows .mixedOrders = true) (hok : ceOk N l.toArray n M lates earlies = true) (hu : U.all (fun u => V.contains u) = true)
  (h : ∀ w', Ext g w g w' → LTg V g w g w' → CE P (cstOf lates earlies) (fun b => LTw (cond b V U) g w) l.toArray M (fun e' w' => EL P N ro l.toArray (l.drop n) Q' e' ds w') ix e w') : E P N ro (.region id l.toArray true) Q' e ds w := by
 intro a ha hd
 simp only [ceOk, chOk, Bool.and_eq_true, List.all_eq_true, List.mem_range, Bool.or_eq_true, Bool.not_eq_true'] at hok
 obtain ⟨⟨⟨⟨⟨⟨⟨hn, h1⟩, h2⟩, h3⟩, hMn⟩, hM1⟩, hM2⟩, hE⟩ := hok
 have hn' : n ≤ l.toArray.size := Nat.le_of_ble_eq_true hn
 have hMn' : M < n := Nat.le_of_ble_eq_true hMn
 have hr0 : ∀ s, n ≤ s → s < l.toArray.size → ∀ k, k < s → reach l.toArray l.toArray.size s k = true := fun s hs hsz k hk => ((h3 s hsz).resolve_left (fun h => by have : s + 1 ≤ n := Nat.le_of_ble_eq_true h; omega)) k hk
 have hok0 : ∀ j, j < l.toArray.size → okO N (opAt l.toArray j).dst = true ∧ isSel (opAt l.toArray j) = false ∧ ∀ k ∈ directOf (opAt l.toArray j), k < j := fun j hj => ⟨(h1 j hj).1.1, by simpa using (h1 j hj).1.2, fun k hk => Nat.le_of_ble_eq_true ((h1 j hj).2 k hk)⟩
 have hcst : ∀ k, (lates ++ earlies).contains k = true → ∃ b, cstOf lates earlies k = some b := fun k hk => by
  unfold cstOf
  cases h4 : lates.contains k with
  | true => exact ⟨_, rfl⟩
  | false =>
   cases h5 : earlies.contains k with
   | true => exact ⟨_, rfl⟩
   | false =>
    have : k ∈ lates ∨ k ∈ earlies := by simpa using hk
    rcases this with h6 | h6
    ·rw [List.contains_eq_mem] at h4; simp [h6] at h4
    ·rw [List.contains_eq_mem] at h5; simp [h6] at h5
 refine wpIn_region_any hm ?_
 have hlt : LTg V g w g { w with drawn := w.drawn + 1 } := LTg.start.ext (ext_drew g w)
 have hLM : (ix.contains M) = true := by rw [hix]; simp [List.contains_eq_mem, hMn']
 have key := any_ce (P := P) (ops := l.toArray) (cst := cstOf lates earlies) (L := fun b => LTw (cond b V U) g w) (M := M) (Q := fun e' w' => EL P N ro l.toArray (l.drop n) Q' e' ds w') (N := N) (n := n) (ds := ds) (ro := ro) (Q' := lift N Q')
  (fun w' h => h.weak hu) (by unfold cstOf; rw [hM1, hM2]; rfl) hMn' hn'
  (fun k hk => by
   unfold cstOf at hk
   cases h4 : lates.contains k with
   | true => rw [h4] at hk; cases hk
   | false =>
    cases h5 : earlies.contains k with
    | true => have := hE k (by simpa using h5); exact ⟨Nat.le_of_ble_eq_true this.1, this.2⟩
    | false => rw [h4, h5] at hk; cases hk)
  hok0 (fun j hj i hi => (h2 j hj i hi).imp (fun h => h) fun h => ⟨h.1, h.2.imp (hcst i) (hcst j)⟩) hr0 (fun e' w' hL a' ha' hd' => hL a' ha' hd')
  n (List.range n) (Array.replicate l.toArray.size false) e { w with drawn := w.drawn + 1 } a (by simp) List.pairwise_lt_range (fun k hk => by simpa using hk) (by simp)
  (fun k _ hlk => by simp [Array.getD] at hlk) (fun k _ => by simp [Array.getD]) (by rw [← hix, hLM]; exact hlt.toW) ha hd (hix ▸ h _ (ext_drew g w) hlt)
 have hsize : n + (l.toArray.size - n) = l.toArray.size := by omega
 rw [hsize] at key
 exact key
section
variable {P : Program} {ops : Array Oper} {ls es V U : List Nat} {M : Nat} {g0 : Gh} {w0 : World} {Q : Env → World → Prop} {i : Nat} {l : List Nat} {e : Env} {w : World} {op : Op} {ty : TypeId} {pos : String} {af : Array Edge} {gd : Option (Nat × Bool)} {d : Option Tmp}
theorem CE_nil (h : Q e w) : CE P (cstOf ls es) (fun b => LTw (cond b V U) g0 w0) ops M Q [] e w := h
theorem CE_val {c : Value} {b : Bool} (ho : ops[i]? = some ⟨d, op, ty, pos, af, gd⟩) (hl : cstOf ls es i = some b) (hw : Wants ops e gd true) (hc : ∀ w, LTw (cond b V U) g0 w0 w → (execOp (ev e) ⟨d, op, ty, pos, af, gd⟩).run P w = .ok (.value c) w) (h : CE P (cstOf ls es) (fun b => LTw (cond b V U) g0 w0) ops M Q l (updO e d c) w) : CE P (cstOf ls es) (fun b => LTw (cond b V U) g0 w0) ops M Q (i :: l) e w := by
 have hw' : Region.wanted ⟨d, op, ty, pos, af, gd⟩ (yieldE ops e) = true := Wants.yieldE (o := ⟨d, op, ty, pos, af, gd⟩) hw
 unfold CE; rw [ho]; simp only [CES, hw', if_true, hl]; exact ⟨c, hc, h⟩
theorem CE_pur {c : Value} (ho : ops[i]? = some ⟨d, op, ty, pos, af, gd⟩) (hl : cstOf ls es i = some false) (hw : Wants ops e gd true) (hc : Pur P op e c) (h : CE P (cstOf ls es) (fun b => LTw (cond b V U) g0 w0) ops M Q l (updO e d c) w) : CE P (cstOf ls es) (fun b => LTw (cond b V U) g0 w0) ops M Q (i :: l) e w :=
 CE_val ho hl hw (fun w _ => hc _ _ _ _ _ w) h
theorem CE_ldP {c p : Value} {x : Operand} {t : TypeId} (ho : ops[i]? = some ⟨d, .load t x, ty, pos, af, gd⟩) (hl : cstOf ls es i = some false) (hw : Wants ops e gd true)
  (hld : ∀ (e : Env) (g : Gh) (w : World), Ch g0.m w0 g.m w → ev e x = p → ∀ d ty pos af gd, (execOp (ev e) ⟨d, .load t x, ty, pos, af, gd⟩).run P w = .ok (.value c) w) (hx : ev e x = p)
  (h : CE P (cstOf ls es) (fun b => LTw (cond b V U) g0 w0) ops M Q l (updO e d c) w) : CE P (cstOf ls es) (fun b => LTw (cond b V U) g0 w0) ops M Q (i :: l) e w :=
 CE_val ho hl hw (fun w h => let ⟨g, hg⟩ := h.ch; hld e g w hg hx _ _ _ _ _) h
theorem CE_ldO (b : Bool) {n : Nat} {c p : Value} {x : Operand} {t : TypeId} (ho : ops[i]? = some ⟨d, .load t x, ty, pos, af, gd⟩) (hl : cstOf ls es i = some b) (hw : Wants ops e gd true)
  (hld : ∀ (e : Env) (g : Gh) (w : World), (Ch g0.m w0 g.m w ∧ ∀ b, b < w0.heap.size → g0.o b = n → w.heap[b]? = w0.heap[b]?) → ev e x = p → ∀ d ty pos af gd, (execOp (ev e) ⟨d, .load t x, ty, pos, af, gd⟩).run P w = .ok (.value c) w) (hx : ev e x = p) (hn : (cond b V U).contains n = true)
  (h : CE P (cstOf ls es) (fun b => LTw (cond b V U) g0 w0) ops M Q l (updO e d c) w) : CE P (cstOf ls es) (fun b => LTw (cond b V U) g0 w0) ops M Q (i :: l) e w :=
 CE_val ho hl hw (fun w h => let ⟨g, hg⟩ := h.blk hn; hld e g w hg hx _ _ _ _ _) h
theorem CE_do (X : List Nat) (ho : ops[i]? = some ⟨d, op, ty, pos, af, gd⟩) (hl : cstOf ls es i = none) (hX : cond (l.contains M) V U = X) (hw : Wants ops e gd true) (h : Doe P op e w fun v w' => LTw X g0 w0 w' ∧ CE P (cstOf ls es) (fun b => LTw (cond b V U) g0 w0) ops M Q l (updO e d v) w') : CE P (cstOf ls es) (fun b => LTw (cond b V U) g0 w0) ops M Q (i :: l) e w := by
 have hw' : Region.wanted ⟨d, op, ty, pos, af, gd⟩ (yieldE ops e) = true := Wants.yieldE (o := ⟨d, op, ty, pos, af, gd⟩) hw
 unfold CE; rw [ho]; simp only [CES, hw', if_true, hl]; rw [hX]; exact h _ _ _ _ _
end
section
variable {α β γ : Type} [GoT α] [GoT γ] {A : Ow α} {E : Ow γ} {P : Program} {x : Operand} {i b b1 off : Nat} {t t2 : TypeId} {a : α} {s : A.S}
end
end Go.Proofs.Ytnfjhdagbknlbaa
