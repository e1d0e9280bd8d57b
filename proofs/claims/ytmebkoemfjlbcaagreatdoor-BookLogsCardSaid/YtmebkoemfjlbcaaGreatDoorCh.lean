/- A region that draws its order, whose operations that change something come in one order: walked in the order of its text. No program is named here. -/
import Derived.Test.YtmebkoemfjlbcaaGreatDoorMm
namespace Go.Proofs.YtmebkoemfjlbcaaGreatDoor
open Go.RowKit
section
variable {P : Program} {ops : Array Oper}
def CHS (P : Program) (late : Nat → Bool) (L : World → Prop) (ops : Array Oper) (i : Nat) (o : Oper) (K : Env → World → Prop) (e : Env) (w : World) : Prop :=
 if Region.wanted o (yieldE ops e) = true then
  if late i = true then ∃ c, (∀ w, L w → (execOp (ev e) o).run P w = .ok (.value c) w) ∧ K (Te e o.dst c) w
  else doE P o e w fun v w' => L w' ∧ K (Te e o.dst v) w'
 else K (Te e o.dst undef) w
def CH (P : Program) (late : Nat → Bool) (L : World → Prop) (ops : Array Oper) (Q : Env → World → Prop) : List Nat → Env → World → Prop
 | [], e, w => Q e w
 | i :: l, e, w => match ops[i]? with
  | none => False
  | some o => CHS P late L ops i o (CH P late L ops Q l) e w
variable {late : Nat → Bool} {L : World → Prop} {Q : Env → World → Prop}
structure Y5 (ops : Array Oper) (oi oj : Oper) : Prop where
 ci : Wx ops oi oj.dst = true
 cj : Wx ops oj oi.dst = true
 dd : ∀ d, oi.dst = some d → oj.dst ≠ some d
 si : Wh oi = false
 sj : Wh oj = false
theorem Bb {j : Nat} {oi oj : Oper} (ap : Y5 ops oi oj) {u : Value} {K1 K2 : Env → World → Prop} {e : Env} {w : World} (hk : ∀ v w', K1 (Te (Te e oi.dst u) oj.dst v) w' → K2 (Te e oj.dst v) w') (h : CHS P late L ops j oj K1 (Te e oi.dst u) w) : CHS P late L ops j oj K2 e w := by
 unfold CHS at h ⊢
 rw [Qr ap.cj, Wv ap.sj ap.cj] at h
 by_cases hw : Region.wanted oj (yieldE ops e) = true
 ·rw [if_pos hw] at h ⊢
  by_cases hl : late j = true
  ·rw [if_pos hl] at h ⊢
   obtain ⟨c, h1, h2⟩ := h
   exact ⟨c, h1, hk _ _ h2⟩
  ·rw [if_neg hl] at h ⊢
   exact Ke ((Vg ap.sj ap.cj).1 h) fun v w' h2 => ⟨h2.1, hk _ _ h2.2⟩
 ·rw [if_neg hw] at h ⊢
  exact hk _ _ h
theorem De {j : Nat} {oj : Oper} (hoj : ops[j]? = some oj) {l2 : List Nat} : ∀ (l1 : List Nat) (e : Env) (w : World), (∀ i ∈ l1, ∃ oi, ops[i]? = some oi ∧ Y5 ops oi oj) → (late j = true ∨ ∀ i ∈ l1, late i = true) → L w → CH P late L ops Q (l1 ++ j :: l2) e w → CHS P late L ops j oj (CH P late L ops Q (l1 ++ l2)) e w
 | [], e, w, _, _, _, h => by simpa only [List.nil_append, CH, hoj] using h
 | i :: l1, e, w, hap, hlj, hL, h => by
  obtain ⟨oi, hoi, ap⟩ := hap i (by simp)
  have hap' : ∀ k ∈ l1, ∃ ok, ops[k]? = some ok ∧ Y5 ops ok oj := fun k hk => hap k (by simp [hk])
  have hlj' : late j = true ∨ ∀ k ∈ l1, late k = true := hlj.imp id fun h k hk => h k (by simp [hk])
  simp only [List.cons_append, CH, hoi] at h
  unfold CHS at h
  by_cases hwi : Region.wanted oi (yieldE ops e) = true
  ·rw [if_pos hwi] at h
   by_cases hli : late i = true
   ·rw [if_pos hli] at h
    obtain ⟨c, hc, h⟩ := h
    refine Bb ap (fun v w' h2 => ?_) (De hoj l1 _ w hap' hlj' hL h)
    simp only [List.cons_append, CH, hoi]
    unfold CHS
    rw [Qr ap.ci, if_pos hwi, if_pos hli, Wv ap.si ap.ci]
    exact ⟨c, hc, by rw [← W9 ap.dd]; exact h2⟩
   ·rw [if_neg hli] at h
    have hj : late j = true := hlj.resolve_right fun h2 => hli (h2 i (by simp))
    have each : doE P oi e w fun v w' => L w' ∧ CHS P late L ops j oj (CH P late L ops Q (l1 ++ l2)) (Te e oi.dst v) w' := Ke h fun v w' h2 => ⟨h2.1, De hoj l1 _ w' hap' hlj' h2.1 h2.2⟩
    have back : ∀ (u : Value), (doE P oi e w fun v w' => L w' ∧ CH P late L ops Q (l1 ++ l2) (Te (Te e oi.dst v) oj.dst u) w') → CH P late L ops Q (i :: l1 ++ l2) (Te e oj.dst u) w := fun u h2 => by
     simp only [List.cons_append, CH, hoi]
     unfold CHS
     rw [Qr ap.ci, if_pos hwi, if_neg hli]
     refine (Vg ap.si ap.ci).2 (Ke h2 fun v w' h3 => ⟨h3.1, ?_⟩)
     rw [← W9 ap.dd]; exact h3.2
    unfold CHS at each ⊢
    by_cases hwj : Region.wanted oj (yieldE ops e) = true
    ·rw [if_pos hwj, if_pos hj]
     obtain ⟨v0, w0, hL0, h0⟩ := Bg each
     rw [Qr ap.cj, if_pos hwj, if_pos hj, Wv ap.sj ap.cj] at h0
     obtain ⟨c0, hc0, _⟩ := h0
     refine ⟨c0, hc0, back _ (Ke each fun v w' h3 => ⟨h3.1, ?_⟩)⟩
     have h4 := h3.2
     rw [Qr ap.cj, if_pos hwj, if_pos hj, Wv ap.sj ap.cj] at h4
     obtain ⟨c1, hc1, h5⟩ := h4
     have e1 := hc1 w' h3.1
     rw [hc0 w' h3.1] at e1
     injection e1 with e1
     injection e1 with e1
     rw [e1]; exact h5
    ·rw [if_neg hwj]
     refine back _ (Ke each fun v w' h3 => ⟨h3.1, ?_⟩)
     have h4 := h3.2
     rw [Qr ap.cj, if_neg hwj] at h4
     exact h4
  ·rw [if_neg hwi] at h
   refine Bb ap (fun v w' h2 => ?_) (De hoj l1 _ w hap' hlj' hL h)
   simp only [List.cons_append, CH, hoi]
   unfold CHS
   rw [Qr ap.ci, if_neg hwi, ← W9 ap.dd]
   exact h2
def chOk (N : Nat) (ops : Array Oper) (n : Nat) (late : List Nat) : Bool :=
 Nat.ble n ops.size &&
 (List.range ops.size).all (fun j => okO N (G7 ops j).dst && !Wh (G7 ops j) && (Gl (G7 ops j)).all (fun k => Nat.blt k j)) &&
 (List.range n).all (fun j => (List.range j).all fun i => Kn ops ops.size j i || (Kb ops (G7 ops i) (G7 ops j) && (late.contains i || late.contains j))) &&
 (List.range ops.size).all (fun s => Nat.blt s n || (List.range s).all fun k => Kn ops ops.size s k)
theorem M2 {N n : Nat} {ds : List Deferred} {ro : Option Nat} {Q' : Exit → Act → World → Prop} (hn : n ≤ ops.size)
  (hok : ∀ j, j < ops.size → okO N (G7 ops j).dst = true ∧ Wh (G7 ops j) = false ∧ ∀ k ∈ Gl (G7 ops j), k < j)
  (hap : ∀ j, j < n → ∀ i, i < j → Kn ops ops.size j i = true ∨ (Kb ops (G7 ops i) (G7 ops j) = true ∧ (late i = true ∨ late j = true)))
  (hr : ∀ s, n ≤ s → s < ops.size → ∀ k, k < s → Kn ops ops.size s k = true)
  (hQ : ∀ e w, Q e w → ∀ a, Wf N e a → a.defers = ds → wpListIn (fz ro) 0 P ops Q' (ops.toList.drop n) a w) :
  ∀ (c : Nat) (l : List Nat) (listed : Array Bool) (e : Env) (w : World) (a : Act), l.length = c → l.Pairwise (· < ·) → (∀ k ∈ l, k < n) → listed.size = ops.size → Yo ops listed →
   (∀ k, k < ops.size → listed.getD k false = (decide (k < n) && !l.contains k)) → L w → Wf N e a → a.defers = ds → CH P late L ops Q l e w → wpAnyIn (fz ro) 0 P .any ops Q' (c + (ops.size - n)) listed a w
 | 0, [], listed, e, w, a, _, _, _, hsz, hcl, hl, _, ha, hds, h => by
  rw [Nat.zero_add]
  exact Vo (fun j hj => (hok j hj).2.2) hr (ops.size - n) n listed a w (Nat.le_refl _) (by omega) hsz hcl (fun k hk => by rw [hl k hk]; simp) (hQ e w h a ha hds)
 | 0, _ :: _, _, _, _, _, hc, _, _, _, _, _, _, _, _, _ => by simp at hc
 | c + 1, [], _, _, _, _, hc, _, _, _, _, _, _, _, _, _ => by simp at hc
 | c + 1, i0 :: l0, listed, e, w, a, hc, hsort, hlt, hsz, hcl, hl, hL, ha, hds, h => by
  rw [Nat.add_right_comm]
  have hi0 : i0 < n := hlt i0 (by simp)
  have hb := fun j (hj : j < ops.size) => (hok j hj).2.2
  have hl' : ∀ k, k < n → (listed.getD k false = true ↔ k ∉ i0 :: l0) := fun k hk => by rw [hl k (by omega)]; simp [hk]
  have hrdy : i0 ∈ Region.ready .any ops listed := by
   refine Wo.2 ⟨?_, by omega, fun j hj => ?_⟩
   ·rw [Wp (by omega) true false, hl i0 (by omega)]; simp
   ·have hji := hb i0 (by omega) j hj
    rw [hl' j (by omega)]
    intro hm
    rcases List.mem_cons.1 hm with h1 | h1
    ·omega
    ·have := (List.pairwise_cons.1 hsort).1 j h1; omega
  refine ⟨fun h0 => (by rw [h0] at hrdy; cases hrdy), fun j hj => ?_⟩
  obtain ⟨hj1, hj2, hj3⟩ := Wo.1 hj
  have hjn : j < n := by
   rcases Nat.lt_or_ge j n with h1 | h1
   ·exact h1
   ·have := Q8 hcl hb _ j i0 hj2 (hr j h1 hj2 i0 (by omega)) hj3
    rw [hl i0 (by omega)] at this
    simp at this
  have hjl : j ∈ i0 :: l0 := by
   have := hl j hj2
   rw [Wp (by omega) false true, hj1] at this
   simp only [hjn, decide_true, Bool.true_and] at this
   by_cases hm : j ∈ i0 :: l0
   ·exact hm
   ·simp [hm] at this
  generalize i0 :: l0 = l at *
  obtain ⟨l1, l2, rfl⟩ := List.append_of_mem hjl
  have hoj := We hj2
  have hsel := fun k (hk : k < ops.size) => (hok k hk).2.1
  have hnr : ∀ i ∈ l1, Kn ops ops.size j i = false ∧ i < j := fun i hi => by
   have hij : i < j := (List.pairwise_append.1 hsort).2.2 i hi j (by simp)
   refine ⟨?_, hij⟩
   cases hre : Kn ops ops.size j i with
   | false => rfl
   | true =>
    have := Q8 hcl hb _ j i hj2 hre hj3
    rw [hl i (by omega)] at this
    simp [hi] at this
  have hap2 : ∀ i ∈ l1, Kb ops (G7 ops i) (G7 ops j) = true ∧ (late i = true ∨ late j = true) := fun i hi => (hap j hjn i (hnr i hi).2).resolve_left (by rw [(hnr i hi).1]; simp)
  have hap' : ∀ i ∈ l1, ∃ oi, ops[i]? = some oi ∧ Y5 ops oi (G7 ops j) := fun i hi => by
   have hij := (hnr i hi).2
   obtain ⟨k1, k2, k3⟩ := Jg (hap2 i hi).1
   exact ⟨_, We (by omega), k1, k2, k3, hsel i (by omega), hsel j hj2⟩
  have hnodup : (l1 ++ j :: l2).Nodup := hsort.imp (fun h => by omega)
  have hlate : late j = true ∨ ∀ i ∈ l1, late i = true := by
   by_cases hj : late j = true
   ·exact .inl hj
   ·exact .inr fun i hi => (hap2 i hi).2.resolve_right hj
  have hstep := De hoj l1 e w hap' hlate hL h
  have hlen : (l1 ++ l2).length = c := by simp at hc ⊢; omega
  have next : ∀ (v : Value) (w' : World), L w' → CH P late L ops Q (l1 ++ l2) (Te e (G7 ops j).dst v) w' → wpAnyIn (fz ro) 0 P .any ops Q' (c + (ops.size - n)) (listed.setIfInBounds j true) (a.put (G7 ops j).dst v) w' := fun v w' hL' hch => by
   have hjl12 : j ∉ l1 ++ l2 := by
    rw [List.nodup_append] at hnodup
    intro hm
    rcases List.mem_append.1 hm with h1 | h1
    ·exact hnodup.2.2 j h1 j (by simp) rfl
    ·exact (List.nodup_cons.1 hnodup.2.1).1 h1
   refine M2 hn hok hap hr hQ c (l1 ++ l2) _ _ w' _ hlen ?_ (fun k hk => hlt k ?_) (by simp [hsz]) (Yt hok hcl hsz hj2 hj3) (fun k hk => ?_) hL' (ha.putO (hok j hj2).1 v) (by rw [Q6]; exact hds) hch
   ·exact hsort.sublist (List.Sublist.append (List.Sublist.refl l1) (List.sublist_cons_self j l2))
   ·rcases List.mem_append.1 hk with h1 | h1 <;> simp [h1]
   ·rw [H2 (by omega), hl k hk]
    by_cases hkj : k = j
    ·subst hkj; simp [hjn]; simpa using hjl12
    ·rw [if_neg hkj]; congr 2; simp [hkj]
  unfold CHS at hstep
  by_cases hw : Region.wanted (G7 ops j) (yieldE ops e) = true
  ·rw [if_pos hw] at hstep
   refine K8 hoj (hsel j hj2) ha hw ?_
   by_cases hlj : late j = true
   ·rw [if_pos hlj] at hstep
    obtain ⟨v, hv, hch⟩ := hstep
    unfold doE
    rw [hv w hL]
    exact next v w hL hch
   ·rw [if_neg hlj] at hstep
    exact Ke hstep fun v w' h2 => next v w' h2.1 h2.2
  ·rw [if_neg hw] at hstep
   exact Jw hoj ha hw (next undef w hL hstep)
def LTg (U : List Nat) (g0 : Gh) (w0 : World) (g : Gh) (w : World) : Prop := Ch g0.m w0 g.m w ∧ ∀ b, b < w0.heap.size → U.contains (g0.o b) = true → w.heap[b]? = w0.heap[b]? ∧ g.o b = g0.o b
section
variable {U : List Nat} {g0 g g' : Gh} {w0 w w' : World}
theorem LTg.start : LTg U g0 w0 g0 w0 := ⟨Ch.refl _ _, fun _ _ _ => ⟨rfl, rfl⟩⟩
theorem LTg.ext (h : LTg U g0 w0 g w) (k : Ext g w g' w') : LTg U g0 w0 g' w' :=
 ⟨h.1.trans k.ch, fun b hb hu => ⟨(k.below.block b (Nat.lt_of_lt_of_le hb h.1.size)).trans (h.2 b hb hu).1, (k.o b (Nat.lt_of_lt_of_le hb h.1.size)).trans (h.2 b hb hu).2⟩⟩
theorem LTg.stp {i : Nat} (h : LTg U g0 w0 g w) (k : Stp i g w g' w') (hi : U.contains i = false := by rfl) : LTg U g0 w0 g' w' :=
 ⟨h.1.trans k.ch, fun b hb hu => by
  have hne : g.o b ≠ i := fun he => by rw [(h.2 b hb hu).2] at he; rw [he, hi] at hu; cases hu
  exact ⟨(k.block b (Nat.lt_of_lt_of_le hb h.1.size) hne).trans (h.2 b hb hu).1, (k.o b (Nat.lt_of_lt_of_le hb h.1.size) hne).trans (h.2 b hb hu).2⟩⟩
def LTw (U : List Nat) (g0 : Gh) (w0 : World) (w : World) : Prop := ∃ g, LTg U g0 w0 g w
theorem LTg.toW (h : LTg U g0 w0 g w) : LTw U g0 w0 w := ⟨_, h⟩
theorem LTw.blk {w : World} {n : Nat} (h : LTw U g0 w0 w) (hn : U.contains n = true := by rfl) : ∃ g : Gh, Ch g0.m w0 g.m w ∧ ∀ b, b < w0.heap.size → g0.o b = n → w.heap[b]? = w0.heap[b]? := let ⟨g, h1, h2⟩ := h; ⟨g, h1, fun b hb ho => (h2 b hb (by rw [ho]; exact hn)).1⟩
theorem LTw.ch {w : World} (h : LTw U g0 w0 w) : ∃ g : Gh, Ch g0.m w0 g.m w := let ⟨g, h1, _⟩ := h; ⟨g, h1⟩
end
theorem Qk {N n : Nat} {ro : Option Nat} {Q' : Kx} {id : Nat} {l : List Oper} {e : Env} {ds : List Deferred} {g : Gh} {w : World} (lates U : List Nat) (ix : List Nat) (hix : ix = List.range n) (hm : P.follows .mixedOrders = true) (hok : chOk N l.toArray n lates = true)
  (h : ∀ w', Ext g w g w' → LTg U g w g w' → CH P (fun k => lates.contains k) (LTw U g w) l.toArray (fun e' w' => EL P N ro l.toArray (l.drop n) Q' e' ds w') ix e w') : E P N ro (.region id l.toArray true) Q' e ds w := by
 intro a ha hd
 simp only [chOk, Bool.and_eq_true, List.all_eq_true, List.mem_range, Bool.or_eq_true] at hok
 obtain ⟨⟨⟨hn, h1⟩, h2⟩, h3⟩ := hok
 have hn' : n ≤ l.toArray.size := Nat.le_of_ble_eq_true hn
 have hr0 : ∀ s, n ≤ s → s < l.toArray.size → ∀ k, k < s → Kn l.toArray l.toArray.size s k = true := fun s hs hsz k hk => ((h3 s hsz).resolve_left (fun h => by have : s + 1 ≤ n := Nat.le_of_ble_eq_true h; omega)) k hk
 have hok0 : ∀ j, j < l.toArray.size → okO N (G7 l.toArray j).dst = true ∧ Wh (G7 l.toArray j) = false ∧ ∀ k ∈ Gl (G7 l.toArray j), k < j := fun j hj => ⟨(h1 j hj).1.1, by simpa using (h1 j hj).1.2, fun k hk => Nat.le_of_ble_eq_true ((h1 j hj).2 k hk)⟩
 refine wpIn_region_any hm ?_
 have hlt : LTg U g w g { w with drawn := w.drawn + 1 } := LTg.start.ext (Hp g w)
 have key := M2 (P := P) (ops := l.toArray) (late := fun k => lates.contains k) (L := LTw U g w) (Q := fun e' w' => EL P N ro l.toArray (l.drop n) Q' e' ds w') (N := N) (n := n) (ds := ds) (ro := ro) (Q' := Ux N Q')
  hn' hok0 (fun j hj i hi => (h2 j hj i hi).imp (fun h => h) fun h => h) hr0 (fun e' w' hL a' ha' hd' => hL a' ha' hd')
  n (List.range n) (Array.replicate l.toArray.size false) e { w with drawn := w.drawn + 1 } a (by simp) List.pairwise_lt_range (fun k hk => by simpa using hk) (by simp)
  (fun k _ hlk => by simp [Array.getD] at hlk) (fun k _ => by simp [Array.getD]) hlt.toW ha hd (hix ▸ h _ (Hp g w) hlt)
 have hsize : n + (l.toArray.size - n) = l.toArray.size := by omega
 rw [hsize] at key
 exact key
end
section
variable {P : Program} {ops : Array Oper} {late : Nat → Bool} {U : List Nat} {g0 : Gh} {w0 : World} {Q : Env → World → Prop} {i : Nat} {l : List Nat} {e : Env} {w : World} {op : Op} {ty : TypeId} {pos : String} {af : Array Edge} {gd : Option (Nat × Bool)} {d : Option Tmp}
theorem Q7 (h : Q e w) : CH P late (LTw U g0 w0) ops Q [] e w := h
theorem Tk (ho : ops[i]? = some ⟨d, op, ty, pos, af, gd⟩) (hw : Wants ops e gd false) (h : CH P late (LTw U g0 w0) ops Q l (Te e d undef) w) : CH P late (LTw U g0 w0) ops Q (i :: l) e w := by
 have hw' : Region.wanted ⟨d, op, ty, pos, af, gd⟩ (yieldE ops e) = false := Wants.yieldE (o := ⟨d, op, ty, pos, af, gd⟩) hw
 unfold CH; rw [ho]; simp only [CHS, hw', Bool.false_eq_true, if_false]; exact h
theorem Fm {c : Value} (ho : ops[i]? = some ⟨d, op, ty, pos, af, gd⟩) (hl : late i = true) (hw : Wants ops e gd true) (hc : ∀ w, LTw U g0 w0 w → (execOp (ev e) ⟨d, op, ty, pos, af, gd⟩).run P w = .ok (.value c) w) (h : CH P late (LTw U g0 w0) ops Q l (Te e d c) w) : CH P late (LTw U g0 w0) ops Q (i :: l) e w := by
 have hw' : Region.wanted ⟨d, op, ty, pos, af, gd⟩ (yieldE ops e) = true := Wants.yieldE (o := ⟨d, op, ty, pos, af, gd⟩) hw
 unfold CH; rw [ho]; simp only [CHS, hw', if_true, hl]; exact ⟨c, hc, h⟩
theorem Z6 {c : Value} (ho : ops[i]? = some ⟨d, op, ty, pos, af, gd⟩) (hl : late i = true) (hw : Wants ops e gd true) (hc : Pur P op e c) (h : CH P late (LTw U g0 w0) ops Q l (Te e d c) w) : CH P late (LTw U g0 w0) ops Q (i :: l) e w :=
 Fm ho hl hw (fun w _ => hc _ _ _ _ _ w) h
theorem Jc {c p : Value} {x : Operand} {t : TypeId} (ho : ops[i]? = some ⟨d, .load t x, ty, pos, af, gd⟩) (hl : late i = true) (hw : Wants ops e gd true)
  (hld : ∀ (e : Env) (g : Gh) (w : World), Ch g0.m w0 g.m w → ev e x = p → ∀ d ty pos af gd, (execOp (ev e) ⟨d, .load t x, ty, pos, af, gd⟩).run P w = .ok (.value c) w) (hx : ev e x = p)
  (h : CH P late (LTw U g0 w0) ops Q l (Te e d c) w) : CH P late (LTw U g0 w0) ops Q (i :: l) e w :=
 Fm ho hl hw (fun w h => let ⟨g, hg⟩ := h.ch; hld e g w hg hx _ _ _ _ _) h
theorem Wu {n : Nat} {c p : Value} {x : Operand} {t : TypeId} (ho : ops[i]? = some ⟨d, .load t x, ty, pos, af, gd⟩) (hl : late i = true) (hw : Wants ops e gd true)
  (hld : ∀ (e : Env) (g : Gh) (w : World), (Ch g0.m w0 g.m w ∧ ∀ b, b < w0.heap.size → g0.o b = n → w.heap[b]? = w0.heap[b]?) → ev e x = p → ∀ d ty pos af gd, (execOp (ev e) ⟨d, .load t x, ty, pos, af, gd⟩).run P w = .ok (.value c) w) (hx : ev e x = p) (hn : U.contains n = true)
  (h : CH P late (LTw U g0 w0) ops Q l (Te e d c) w) : CH P late (LTw U g0 w0) ops Q (i :: l) e w :=
 Fm ho hl hw (fun w h => let ⟨g, hg⟩ := h.blk hn; hld e g w hg hx _ _ _ _ _) h
theorem W7 (ho : ops[i]? = some ⟨d, op, ty, pos, af, gd⟩) (hl : late i = false) (hw : Wants ops e gd true) (h : Doe P op e w fun v w' => LTw U g0 w0 w' ∧ CH P late (LTw U g0 w0) ops Q l (Te e d v) w') : CH P late (LTw U g0 w0) ops Q (i :: l) e w := by
 have hw' : Region.wanted ⟨d, op, ty, pos, af, gd⟩ (yieldE ops e) = true := Wants.yieldE (o := ⟨d, op, ty, pos, af, gd⟩) hw
 unfold CH; rw [ho]; simp only [CHS, hw', if_true, hl, Bool.false_eq_true, if_false]; exact h _ _ _ _ _
end
end Go.Proofs.YtmebkoemfjlbcaaGreatDoor
