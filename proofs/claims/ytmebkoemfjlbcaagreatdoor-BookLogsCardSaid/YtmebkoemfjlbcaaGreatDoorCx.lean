/- A region that draws its order, of whose calls some may panic: walked in an order of one's own. No program is named here. -/
import Derived.Test.YtmebkoemfjlbcaaGreatDoorPn
import Derived.Test.YtmebkoemfjlbcaaGreatDoorCh
namespace Go.Proofs.YtmebkoemfjlbcaaGreatDoor
open Go.RowKit
section
variable {P : Program} {ops : Array Oper}
def Dt (P : Program) (o : Oper) (e : Env) (w : World) (K : Value → World → Prop) (KP : List PanicEntry → World → Prop) : Prop :=
 match (execOp (ev e) o).run P w with
 | .ok (.enter f args) w' => Calls P f args w' fun r w'' => (∃ v, r = .returned v ∧ K v w'') ∨ ∃ c, r = .panicked c ∧ KP c w''
 | _ => False
theorem B1 {o : Oper} {e : Env} {w : World} {K K' : Value → World → Prop} {KP : List PanicEntry → World → Prop} (h : Dt P o e w K KP) (hk : ∀ v w, K v w → K' v w) : Dt P o e w K' KP := by
 unfold Dt at *
 split at h
 ·exact Calls.mono h fun _ _ h => h.imp (fun ⟨v, hv, hh⟩ => ⟨v, hv, hk _ _ hh⟩) id
 ·exact h.elim
theorem A4 {o : Oper} {d : Option Tmp} (hs : Wh o = false) (hc : Wx ops o d = true) {e : Env} {v : Value} {w : World} {K : Value → World → Prop} {KP : List PanicEntry → World → Prop} : Dt P o (Te e d v) w K KP ↔ Dt P o e w K KP := by
 unfold Dt; rw [Wv hs hc]
theorem Be {N : Nat} {ro : Option Nat} {Q' : Exit → Act → World → Prop} {i : Nat} {o : Oper} (ho : ops[i]? = some o) (hs : Wh o = false) {e : Env} {a : Act} (ha : Wf N e a) {w : World} {K : Act → World → Prop}
  (hw : Region.wanted o (yieldE ops e) = true) (h : Dt P o e w (fun v w' => K (a.put o.dst v) w') fun c w' => Q' (.panic c) a w') : wpOpIn (fz ro) 0 P ops Q' i K a w := by
 unfold wpOpIn
 rw [ho]
 simp only
 rw [Y3 ha, if_pos hw]
 refine ⟨fun _ _ => trivial, ?_⟩
 rw [Oper.semAt_eq _ _ _ (fun c hc => by simp [Wh, hc] at hs), ha.eval]
 unfold Dt at h
 split at h
 ·rename_i hr
  rw [hr, Oper.uponIn_enter]
  refine ⟨Jk ro, (Y4 h).mono ?_⟩
  rintro r w'' (⟨v, rfl, hv⟩ | ⟨c, rfl, hc⟩)
  ·exact hv
  ·exact hc
 ·exact h.elim
def CXS (P : Program) (late px : Nat → Bool) (L : World → Prop) (QP : List PanicEntry → World → Prop) (ops : Array Oper) (i : Nat) (o : Oper) (K : Env → World → Prop) (e : Env) (w : World) : Prop :=
 if px i = true then Region.wanted o (yieldE ops e) = true ∧ Dt P o e w (fun v w' => L w' ∧ K (Te e o.dst v) w') QP
 else CHS P late L ops i o K e w
def CX (P : Program) (late px : Nat → Bool) (L : World → Prop) (QP : List PanicEntry → World → Prop) (ops : Array Oper) (Q : Env → World → Prop) : List Nat → Env → World → Prop
 | [], e, w => Q e w
 | i :: l, e, w => match ops[i]? with
  | none => False
  | some o => CXS P late px L QP ops i o (CX P late px L QP ops Q l) e w
variable {late px : Nat → Bool} {L : World → Prop} {QP : List PanicEntry → World → Prop} {Q : Env → World → Prop}
theorem R0 {j : Nat} {oi oj : Oper} (ap : Y5 ops oi oj) {u : Value} {K1 K2 : Env → World → Prop} {e : Env} {w : World} (hk : ∀ v w', K1 (Te (Te e oi.dst u) oj.dst v) w' → K2 (Te e oj.dst v) w') (h : CXS P late px L QP ops j oj K1 (Te e oi.dst u) w) : CXS P late px L QP ops j oj K2 e w := by
 unfold CXS at h ⊢
 by_cases hp : px j = true
 ·rw [if_pos hp] at h ⊢
  rw [Qr ap.cj] at h
  exact ⟨h.1, B1 ((A4 ap.sj ap.cj).1 h.2) fun v w' h2 => ⟨h2.1, hk _ _ h2.2⟩⟩
 ·rw [if_neg hp] at h ⊢
  exact Bb ap hk h
theorem X0 {j : Nat} {oj : Oper} (hoj : ops[j]? = some oj) {l2 : List Nat} : ∀ (l1 : List Nat) (e : Env) (w : World), (∀ i ∈ l1, (∃ oi, ops[i]? = some oi ∧ Y5 ops oi oj) ∧ px i = false) → ((late j = true ∧ px j = false) ∨ ∀ i ∈ l1, late i = true) → L w → CX P late px L QP ops Q (l1 ++ j :: l2) e w → CXS P late px L QP ops j oj (CX P late px L QP ops Q (l1 ++ l2)) e w
 | [], e, w, _, _, _, h => by simpa only [List.nil_append, CX, hoj] using h
 | i :: l1, e, w, hap, hlj, hL, h => by
  obtain ⟨⟨oi, hoi, ap⟩, hpi⟩ := hap i (by simp)
  have hpi' : ¬ px i = true := by rw [hpi]; simp
  have hap' : ∀ k ∈ l1, (∃ ok, ops[k]? = some ok ∧ Y5 ops ok oj) ∧ px k = false := fun k hk => hap k (by simp [hk])
  have hlj' : (late j = true ∧ px j = false) ∨ ∀ k ∈ l1, late k = true := hlj.imp id fun h k hk => h k (by simp [hk])
  simp only [List.cons_append, CX, hoi] at h
  unfold CXS at h
  rw [if_neg hpi'] at h
  unfold CHS at h
  by_cases hwi : Region.wanted oi (yieldE ops e) = true
  ·rw [if_pos hwi] at h
   by_cases hli : late i = true
   ·rw [if_pos hli] at h
    obtain ⟨c, hc, h⟩ := h
    refine R0 ap (fun v w' h2 => ?_) (X0 hoj l1 _ w hap' hlj' hL h)
    simp only [List.cons_append, CX, hoi]
    unfold CXS
    rw [if_neg hpi']
    unfold CHS
    rw [Qr ap.ci, if_pos hwi, if_pos hli, Wv ap.si ap.ci]
    exact ⟨c, hc, by rw [← W9 ap.dd]; exact h2⟩
   ·rw [if_neg hli] at h
    have hj : late j = true ∧ px j = false := hlj.resolve_right fun h2 => hli (h2 i (by simp))
    have hpj : ¬ px j = true := by rw [hj.2]; simp
    have each : doE P oi e w fun v w' => L w' ∧ CXS P late px L QP ops j oj (CX P late px L QP ops Q (l1 ++ l2)) (Te e oi.dst v) w' := Ke h fun v w' h2 => ⟨h2.1, X0 hoj l1 _ w' hap' hlj' h2.1 h2.2⟩
    have back : ∀ (u : Value), (doE P oi e w fun v w' => L w' ∧ CX P late px L QP ops Q (l1 ++ l2) (Te (Te e oi.dst v) oj.dst u) w') → CX P late px L QP ops Q (i :: l1 ++ l2) (Te e oj.dst u) w := fun u h2 => by
     simp only [List.cons_append, CX, hoi]
     unfold CXS
     rw [if_neg hpi']
     unfold CHS
     rw [Qr ap.ci, if_pos hwi, if_neg hli]
     refine (Vg ap.si ap.ci).2 (Ke h2 fun v w' h3 => ⟨h3.1, ?_⟩)
     rw [← W9 ap.dd]; exact h3.2
    unfold CXS at each ⊢
    rw [if_neg hpj]
    simp only [if_neg hpj] at each
    unfold CHS at each ⊢
    by_cases hwj : Region.wanted oj (yieldE ops e) = true
    ·rw [if_pos hwj, if_pos hj.1]
     obtain ⟨v0, w0, hL0, h0⟩ := Bg each
     rw [Qr ap.cj, if_pos hwj, if_pos hj.1, Wv ap.sj ap.cj] at h0
     obtain ⟨c0, hc0, _⟩ := h0
     refine ⟨c0, hc0, back _ (Ke each fun v w' h3 => ⟨h3.1, ?_⟩)⟩
     have h4 := h3.2
     rw [Qr ap.cj, if_pos hwj, if_pos hj.1, Wv ap.sj ap.cj] at h4
     obtain ⟨c1, hc1, h5⟩ := h4
     have e1 := hc1 w' h3.1
     rw [hc0 w' h3.1] at e1
     injection e1 with e1
     injection e1 with e1
     rw [e1]; exact h5
    ·rw [if_neg hwj]
     refine back _ (Ke each fun v w' h3 => ⟨h3.1, ?_⟩)
     have h4 := h3.2
     rw [Qr ap.cj, if_neg hwj] at h4
     exact h4
  ·rw [if_neg hwi] at h
   refine R0 ap (fun v w' h2 => ?_) (X0 hoj l1 _ w hap' hlj' hL h)
   simp only [List.cons_append, CX, hoi]
   unfold CXS
   rw [if_neg hpi']
   unfold CHS
   rw [Qr ap.ci, if_neg hwi, ← W9 ap.dd]
   exact h2
def plc (ix : List Nat) (k : Nat) : Nat := ix.idxOf k
def cxOk (N : Nat) (ops : Array Oper) (n : Nat) (late px ix : List Nat) : Bool :=
 Nat.ble n ops.size && (Nat.beq ix.length n && ix.all (fun k => Nat.blt k n)) &&
 (List.range ops.size).all (fun j => okO N (G7 ops j).dst && !Wh (G7 ops j) && (Gl (G7 ops j)).all (fun k => Nat.blt k j)) &&
 (List.range n).all (fun j => (Gl (G7 ops j)).all (fun k => Nat.blt (plc ix k) (plc ix j)) && Nat.blt (plc ix j) n && Nat.beq (ix.getD (plc ix j) n) j && Nat.beq (plc ix (ix.getD j n)) j) &&
 (List.range n).all (fun j => (List.range n).all fun i => !Nat.blt (plc ix i) (plc ix j) || Kn ops ops.size j i || (Kb ops (G7 ops i) (G7 ops j) && (late.contains i || late.contains j) && !px.contains i && !(px.contains j && late.contains j))) &&
 (List.range ops.size).all (fun s => Nat.blt s n || (List.range s).all fun k => Kn ops ops.size s k)
theorem M1 {pl : Nat → Nat} {N n : Nat} {ds : List Deferred} {ro : Option Nat} {Q' : Exit → Act → World → Prop} (hn : n ≤ ops.size)
  (hok : ∀ j, j < ops.size → okO N (G7 ops j).dst = true ∧ Wh (G7 ops j) = false ∧ ∀ k ∈ Gl (G7 ops j), k < j)
  (htop : ∀ j, j < n → ∀ k ∈ Gl (G7 ops j), pl k < pl j)
  (hap : ∀ j, j < n → ∀ i, i < n → pl i < pl j → Kn ops ops.size j i = true ∨ (Kb ops (G7 ops i) (G7 ops j) = true ∧ (late i = true ∨ late j = true) ∧ px i = false ∧ ¬ (px j = true ∧ late j = true)))
  (hr : ∀ s, n ≤ s → s < ops.size → ∀ k, k < s → Kn ops ops.size s k = true)
  (hP : ∀ c a w, QP c w → Wf N (B6 a) a → a.defers = ds → Q' (.panic c) a w)
  (hQ : ∀ e w, Q e w → ∀ a, Wf N e a → a.defers = ds → wpListIn (fz ro) 0 P ops Q' (ops.toList.drop n) a w) :
  ∀ (c : Nat) (l : List Nat) (listed : Array Bool) (e : Env) (w : World) (a : Act), l.length = c → l.Pairwise (fun x y => pl x < pl y) → (∀ k ∈ l, k < n) → listed.size = ops.size → Yo ops listed →
   (∀ k, k < ops.size → listed.getD k false = (decide (k < n) && !l.contains k)) → L w → Wf N e a → a.defers = ds → CX P late px L QP ops Q l e w → wpAnyIn (fz ro) 0 P .any ops Q' (c + (ops.size - n)) listed a w
 | 0, [], listed, e, w, a, _, _, _, hsz, hcl, hl, _, ha, hds, h => by
  rw [Nat.zero_add]
  exact Vo (fun j hj => (hok j hj).2.2) hr (ops.size - n) n listed a w (Nat.le_refl _) (by omega) hsz hcl (fun k hk => by rw [hl k hk]; simp) (hQ e w h a ha hds)
 | 0, _ :: _, _, _, _, _, hc, _, _, _, _, _, _, _, _, _ => by simp at hc
 | c + 1, [], _, _, _, _, hc, _, _, _, _, _, _, _, _, _ => by simp at hc
 | c + 1, i0 :: l0, listed, e, w, a, hc, hsort, hlt, hsz, hcl, hl, hL, ha, hds, h => by
  rw [Nat.add_right_comm]
  have hi0 : i0 < n := hlt i0 (by simp)
  have hb := fun j (hj : j < ops.size) => (hok j hj).2.2
  have hl' : ∀ k, k < n → (listed.getD k false = true ↔ k ∉ i0 :: l0) := fun k hk => by rw [hl k (by omega)]; simp [hk]
  have hrdy : i0 ∈ Region.ready .any ops listed := by
   refine Wo.2 ⟨?_, by omega, fun j hj => ?_⟩
   ·rw [Wp (by omega) true false, hl i0 (by omega)]; simp
   ·have hji := hb i0 (by omega) j hj
    have hpj := htop i0 hi0 j hj
    rw [hl' j (by omega)]
    intro hm
    rcases List.mem_cons.1 hm with h1 | h1
    ·omega
    ·have := (List.pairwise_cons.1 hsort).1 j h1; omega
  refine ⟨fun h0 => (by rw [h0] at hrdy; cases hrdy), fun j hj => ?_⟩
  obtain ⟨hj1, hj2, hj3⟩ := Wo.1 hj
  have hjn : j < n := by
   rcases Nat.lt_or_ge j n with h1 | h1
   ·exact h1
   ·have := Q8 hcl hb _ j i0 hj2 (hr j h1 hj2 i0 (by omega)) hj3
    rw [hl i0 (by omega)] at this
    simp at this
  have hjl : j ∈ i0 :: l0 := by
   have := hl j hj2
   rw [Wp (by omega) false true, hj1] at this
   simp only [hjn, decide_true, Bool.true_and] at this
   by_cases hm : j ∈ i0 :: l0
   ·exact hm
   ·simp [hm] at this
  generalize i0 :: l0 = l at *
  obtain ⟨l1, l2, rfl⟩ := List.append_of_mem hjl
  have hoj := We hj2
  have hsel := fun k (hk : k < ops.size) => (hok k hk).2.1
  have hnr : ∀ i ∈ l1, Kn ops ops.size j i = false ∧ pl i < pl j ∧ i < n := fun i hi => by
   have hij : pl i < pl j := (List.pairwise_append.1 hsort).2.2 i hi j (by simp)
   refine ⟨?_, hij, hlt i (by simp [hi])⟩
   cases hre : Kn ops ops.size j i with
   | false => rfl
   | true =>
    have := Q8 hcl hb _ j i hj2 hre hj3
    have hin := hlt i (by simp [hi])
    rw [hl i (by omega)] at this
    simp [hi] at this
  have hap2 : ∀ i ∈ l1, Kb ops (G7 ops i) (G7 ops j) = true ∧ (late i = true ∨ late j = true) ∧ px i = false ∧ ¬ (px j = true ∧ late j = true) := fun i hi => (hap j hjn i (hnr i hi).2.2 (hnr i hi).2.1).resolve_left (by rw [(hnr i hi).1]; simp)
  have hap' : ∀ i ∈ l1, (∃ oi, ops[i]? = some oi ∧ Y5 ops oi (G7 ops j)) ∧ px i = false := fun i hi => by
   have hij := (hnr i hi).2
   obtain ⟨k1, k2, k3⟩ := Jg (hap2 i hi).1
   exact ⟨⟨_, We (by omega), k1, k2, k3, hsel i (by omega), hsel j hj2⟩, (hap2 i hi).2.2.1⟩
  have hnodup : (l1 ++ j :: l2).Nodup := hsort.imp (fun {a b} h he => by subst he; omega)
  have hlate : (late j = true ∧ px j = false) ∨ ∀ i ∈ l1, late i = true := by
   by_cases hj : late j = true
   ·by_cases hl1 : l1 = []
    ·subst hl1; exact .inr (fun i hi => by cases hi)
    ·obtain ⟨i, hi⟩ := List.exists_mem_of_ne_nil l1 hl1
     refine .inl ⟨hj, ?_⟩
     cases hpj : px j with
     | false => rfl
     | true => exact ((hap2 i hi).2.2.2 ⟨hpj, hj⟩).elim
   ·exact .inr fun i hi => (hap2 i hi).2.1.resolve_right hj
  have hstep := X0 hoj l1 e w hap' hlate hL h
  have hlen : (l1 ++ l2).length = c := by simp at hc ⊢; omega
  have next : ∀ (v : Value) (w' : World), L w' → CX P late px L QP ops Q (l1 ++ l2) (Te e (G7 ops j).dst v) w' → wpAnyIn (fz ro) 0 P .any ops Q' (c + (ops.size - n)) (listed.setIfInBounds j true) (a.put (G7 ops j).dst v) w' := fun v w' hL' hch => by
   have hjl12 : j ∉ l1 ++ l2 := by
    rw [List.nodup_append] at hnodup
    intro hm
    rcases List.mem_append.1 hm with h1 | h1
    ·exact hnodup.2.2 j h1 j (by simp) rfl
    ·exact (List.nodup_cons.1 hnodup.2.1).1 h1
   refine M1 hn hok htop hap hr hP hQ c (l1 ++ l2) _ _ w' _ hlen ?_ (fun k hk => hlt k ?_) (by simp [hsz]) (Yt hok hcl hsz hj2 hj3) (fun k hk => ?_) hL' (ha.putO (hok j hj2).1 v) (by rw [Q6]; exact hds) hch
   ·exact hsort.sublist (List.Sublist.append (List.Sublist.refl l1) (List.sublist_cons_self j l2))
   ·rcases List.mem_append.1 hk with h1 | h1 <;> simp [h1]
   ·rw [H2 (by omega), hl k hk]
    by_cases hkj : k = j
    ·subst hkj; simp [hjn]; simpa using hjl12
    ·rw [if_neg hkj]; congr 2; simp [hkj]
  unfold CXS at hstep
  by_cases hpj : px j = true
  ·rw [if_pos hpj] at hstep
   refine Be hoj (hsel j hj2) ha hstep.1 ?_
   have h1 := B1 hstep.2 fun v w' h2 => next v w' h2.1 h2.2
   unfold Dt at h1 ⊢
   split at h1
   ·exact Calls.mono h1 fun r w'' h => h.imp id fun ⟨c, hc, hq⟩ => ⟨c, hc, hP c a w'' hq ⟨ha.size, fun _ => rfl⟩ hds⟩
   ·exact h1.elim
  rw [if_neg hpj] at hstep
  unfold CHS at hstep
  by_cases hw : Region.wanted (G7 ops j) (yieldE ops e) = true
  ·rw [if_pos hw] at hstep
   refine K8 hoj (hsel j hj2) ha hw ?_
   by_cases hlj : late j = true
   ·rw [if_pos hlj] at hstep
    obtain ⟨v, hv, hch⟩ := hstep
    unfold doE
    rw [hv w hL]
    exact next v w hL hch
   ·rw [if_neg hlj] at hstep
    exact Ke hstep fun v w' h2 => next v w' h2.1 h2.2
  ·rw [if_neg hw] at hstep
   exact Jw hoj ha hw (next undef w hL hstep)
theorem Sl {N n : Nat} {ro : Option Nat} {Q' : Kx} {id : Nat} {l : List Oper} {e : Env} {ds : List Deferred} {g : Gh} {w : World} (QP : List PanicEntry → World → Prop) (lates U pxs ix : List Nat) (hm : P.follows .mixedOrders = true) (hok : cxOk N l.toArray n lates pxs ix = true)
  (hP : ∀ c e w, QP c w → Q' (.panic c) e ds w)
  (h : ∀ w', Ext g w g w' → LTg U g w g w' → CX P (fun k => lates.contains k) (fun k => pxs.contains k) (LTw U g w) QP l.toArray (fun e' w' => EL P N ro l.toArray (l.drop n) Q' e' ds w') ix e w') : E P N ro (.region id l.toArray true) Q' e ds w := by
 intro a ha hd
 simp only [cxOk, Bool.and_eq_true, List.all_eq_true, List.mem_range, Bool.or_eq_true] at hok
 obtain ⟨⟨⟨⟨⟨hn, hlen, hall⟩, h1⟩, h4⟩, h2⟩, h3⟩ := hok
 have hn' : n ≤ l.toArray.size := Nat.le_of_ble_eq_true hn
 have hlen' : ix.length = n := Nat.eq_of_beq_eq_true hlen
 have hr0 : ∀ s, n ≤ s → s < l.toArray.size → ∀ k, k < s → Kn l.toArray l.toArray.size s k = true := fun s hs hsz k hk => ((h3 s hsz).resolve_left (fun h => by have : s + 1 ≤ n := Nat.le_of_ble_eq_true h; omega)) k hk
 have hok0 : ∀ j, j < l.toArray.size → okO N (G7 l.toArray j).dst = true ∧ Wh (G7 l.toArray j) = false ∧ ∀ k ∈ Gl (G7 l.toArray j), k < j := fun j hj => ⟨(h1 j hj).1.1, by simpa using (h1 j hj).1.2, fun k hk => Nat.le_of_ble_eq_true ((h1 j hj).2 k hk)⟩
 have hpl : ∀ j, j < n → ix.getD (plc ix j) n = j := fun j hj => Nat.eq_of_beq_eq_true (h4 j hj).1.2
 have hmem : ∀ j, j < n → j ∈ ix := fun j hj => by
  have h5 := hpl j hj
  rw [List.getD_eq_getElem?_getD] at h5
  cases h6 : ix[plc ix j]? with
  | none => rw [h6] at h5; simp at h5; omega
  | some v => rw [h6] at h5; simp at h5; subst h5; exact List.mem_of_getElem? h6
 have hidx : ∀ i (hi : i < ix.length), plc ix ix[i] = i := fun i hi => by
  have h5 := Nat.eq_of_beq_eq_true (h4 i (hlen' ▸ hi)).2
  rw [List.getD_eq_getElem?_getD, List.getElem?_eq_getElem hi] at h5
  exact h5
 have hsort : ix.Pairwise (fun x y => plc ix x < plc ix y) := by
  rw [List.pairwise_iff_getElem]
  intro i j hi hj hij
  rw [hidx i hi, hidx j hj]; exact hij
 refine wpIn_region_any hm ?_
 have hlt : LTg U g w g { w with drawn := w.drawn + 1 } := LTg.start.ext (Hp g w)
 have key := M1 (P := P) (ops := l.toArray) (late := fun k => lates.contains k) (px := fun k => pxs.contains k) (L := LTw U g w) (QP := QP) (Q := fun e' w' => EL P N ro l.toArray (l.drop n) Q' e' ds w') (pl := plc ix) (N := N) (n := n) (ds := ds) (ro := ro) (Q' := Ux N Q')
  hn' hok0 (fun j hj k hk => Nat.le_of_ble_eq_true ((h4 j hj).1.1.1 k hk)) (fun j hj i hi hp => by
   rcases h2 j hj i hi with (h | h) | ⟨⟨⟨h5, h6⟩, h7⟩, h8⟩
   ·have hp' : Nat.blt (plc ix i) (plc ix j) = true := Nat.ble_eq_true_of_le hp
    rw [hp'] at h; cases h
   ·exact .inl h
   ·refine .inr ⟨h5, h6, by simpa using h7, fun ⟨h9, h10⟩ => ?_⟩
    rw [h9, h10] at h8; cases h8) hr0 (fun c a w hq ha hd => ⟨ha.size, by rw [hd]; exact hP c _ w hq⟩) (fun e' w' hL a' ha' hd' => hL a' ha' hd')
  n ix (Array.replicate l.toArray.size false) e { w with drawn := w.drawn + 1 } a hlen' hsort (fun k hk => Nat.le_of_ble_eq_true (hall k hk)) (by simp)
  (fun k _ hlk => by simp [Array.getD] at hlk) (fun k hk => by
   by_cases hkn : k < n
   ·have := hmem k hkn; simp [Array.getD, hkn, this]
   ·simp [Array.getD, hkn]) hlt.toW ha hd (h _ (Hp g w) hlt)
 have hsize : n + (l.toArray.size - n) = l.toArray.size := by omega
 rw [hsize] at key
 exact key
end
section
variable {P : Program} {ops : Array Oper} {late px : Nat → Bool} {U : List Nat} {g0 : Gh} {w0 : World} {QP : List PanicEntry → World → Prop} {Q : Env → World → Prop} {i : Nat} {l : List Nat} {e : Env} {w : World} {op : Op} {ty : TypeId} {pos : String} {af : Array Edge} {gd : Option (Nat × Bool)} {d : Option Tmp}
theorem Fz (h : Q e w) : CX P late px (LTw U g0 w0) QP ops Q [] e w := h
theorem Oq {o : Oper} (ho : ops[i]? = some o) (hp : px i = false) (h : CHS P late (LTw U g0 w0) ops i o (CX P late px (LTw U g0 w0) QP ops Q l) e w) : CX P late px (LTw U g0 w0) QP ops Q (i :: l) e w := by
 unfold CX; rw [ho]; simp only [CXS, hp, Bool.false_eq_true, if_false]; exact h
theorem Fs {c : Value} (ho : ops[i]? = some ⟨d, op, ty, pos, af, gd⟩) (hp : px i = false) (hl : late i = true) (hw : Wants ops e gd true) (hc : ∀ w, LTw U g0 w0 w → (execOp (ev e) ⟨d, op, ty, pos, af, gd⟩).run P w = .ok (.value c) w) (h : CX P late px (LTw U g0 w0) QP ops Q l (Te e d c) w) : CX P late px (LTw U g0 w0) QP ops Q (i :: l) e w := by
 have hw' : Region.wanted ⟨d, op, ty, pos, af, gd⟩ (yieldE ops e) = true := Wants.yieldE (o := ⟨d, op, ty, pos, af, gd⟩) hw
 refine Oq ho hp ?_
 simp only [CHS, hw', if_true, hl]; exact ⟨c, hc, h⟩
theorem Wz {c : Value} (ho : ops[i]? = some ⟨d, op, ty, pos, af, gd⟩) (hp : px i = false) (hl : late i = true) (hw : Wants ops e gd true) (hc : Pur P op e c) (h : CX P late px (LTw U g0 w0) QP ops Q l (Te e d c) w) : CX P late px (LTw U g0 w0) QP ops Q (i :: l) e w :=
 Fs ho hp hl hw (fun w _ => hc _ _ _ _ _ w) h
theorem Py {c p : Value} {x : Operand} {t : TypeId} (ho : ops[i]? = some ⟨d, .load t x, ty, pos, af, gd⟩) (hp : px i = false) (hl : late i = true) (hw : Wants ops e gd true)
  (hld : ∀ (e : Env) (g : Gh) (w : World), Ch g0.m w0 g.m w → ev e x = p → ∀ d ty pos af gd, (execOp (ev e) ⟨d, .load t x, ty, pos, af, gd⟩).run P w = .ok (.value c) w) (hx : ev e x = p)
  (h : CX P late px (LTw U g0 w0) QP ops Q l (Te e d c) w) : CX P late px (LTw U g0 w0) QP ops Q (i :: l) e w :=
 Fs ho hp hl hw (fun w h => let ⟨g, hg⟩ := h.ch; hld e g w hg hx _ _ _ _ _) h
theorem CX_ldO {n : Nat} {c p : Value} {x : Operand} {t : TypeId} (ho : ops[i]? = some ⟨d, .load t x, ty, pos, af, gd⟩) (hp : px i = false) (hl : late i = true) (hw : Wants ops e gd true)
  (hld : ∀ (e : Env) (g : Gh) (w : World), (Ch g0.m w0 g.m w ∧ ∀ b, b < w0.heap.size → g0.o b = n → w.heap[b]? = w0.heap[b]?) → ev e x = p → ∀ d ty pos af gd, (execOp (ev e) ⟨d, .load t x, ty, pos, af, gd⟩).run P w = .ok (.value c) w) (hx : ev e x = p) (hn : U.contains n = true)
  (h : CX P late px (LTw U g0 w0) QP ops Q l (Te e d c) w) : CX P late px (LTw U g0 w0) QP ops Q (i :: l) e w :=
 Fs ho hp hl hw (fun w h => let ⟨g, hg⟩ := h.blk hn; hld e g w hg hx _ _ _ _ _) h
theorem Oo (ho : ops[i]? = some ⟨d, op, ty, pos, af, gd⟩) (hp : px i = false) (hl : late i = false) (hw : Wants ops e gd true) (h : Doe P op e w fun v w' => LTw U g0 w0 w' ∧ CX P late px (LTw U g0 w0) QP ops Q l (Te e d v) w') : CX P late px (LTw U g0 w0) QP ops Q (i :: l) e w := by
 have hw' : Region.wanted ⟨d, op, ty, pos, af, gd⟩ (yieldE ops e) = true := Wants.yieldE (o := ⟨d, op, ty, pos, af, gd⟩) hw
 refine Oq ho hp ?_
 simp only [CHS, hw', if_true, hl, Bool.false_eq_true, if_false]; exact h _ _ _ _ _
theorem Rs {α β : Type} {S : Gh → World → Prop} {f : FuncId} {xs : List Operand} {vs : List Value} {ats : Array TypeId} {T : TypeId} {x : Option (PR α)} {k : α → Option (PR β)} {r : PR β} {R : α → Gh → World → Value → Prop}
  (ho : ops[i]? = some ⟨d, .call { callee := .value (.func f), args := xs.toArray, argTypes := ats }, ty, pos, af, gd⟩) (hp : px i = true) (hw : Wants ops e gd true) (hent : Enters P f) (ha : Args e xs vs)
  (hr : bnd x k = some r) (hc : ∀ a, x = some a → FnS S P f vs.toArray w (okR a R) (pnR T a))
  (hpn : ∀ l e' g' w', r = .pn l e' → S g' w' → QP (flt T l e') w')
  (h : ∀ y g' w' v, S g' w' → R y g' w' v → x = some (.ok y) → k y = some r → LTw U g0 w0 w' ∧ CX P late px (LTw U g0 w0) QP ops Q l (Te e d v) w') : CX P late px (LTw U g0 w0) QP ops Q (i :: l) e w := by
 have hw' : Region.wanted ⟨d, .call { callee := .value (.func f), args := xs.toArray, argTypes := ats }, ty, pos, af, gd⟩ (yieldE ops e) = true := Wants.yieldE (o := ⟨d, .call { callee := .value (.func f), args := xs.toArray, argTypes := ats }, ty, pos, af, gd⟩) hw
 have he := hent vs.toArray w
 have hrun : (execOp (ev e) ⟨d, .call { callee := .value (.func f), args := xs.toArray, argTypes := ats }, ty, pos, af, gd⟩).run P w = .ok (.enter f vs.toArray) w := by
  simp only [execOp, resolve, ev, Deferred.ofValue, Sem.run_bind, Sem.run_pure, Result.andThen_ok, invoke, List.map_toArray, ha.map, Array.empty_append, Array.append_empty, he]
 unfold CX; rw [ho]; simp only [CXS, hp, if_true]
 refine ⟨hw', ?_⟩
 unfold Dt; rw [hrun]
 exact Sb hr hc hpn h
end
end Go.Proofs.YtmebkoemfjlbcaaGreatDoor
