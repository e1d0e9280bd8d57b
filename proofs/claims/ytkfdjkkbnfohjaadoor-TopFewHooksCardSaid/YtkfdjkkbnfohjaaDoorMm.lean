/- Values that the function owns with all that they lead to: laws for operations. No program is named here. -/
import Derived.Test.YtkfdjkkbnfohjaaDoorOw
namespace Go.Proofs.YtkfdjkkbnfohjaaDoor
open Go.RowKit

def OV {α : Type} [GoT α] (A : Ow α) (i : Nat) (g : Gh) (w : World) (t : TypeId) (x : α) (b : Nat) (s : A.S) : Prop :=
 ∃ cs, g.o b = i ∧ g.m b = 0 ∧ w.heap[b]? = some (.cells cs t (0, 0)) ∧ A.ow s g.m w x cs.toList ∧ (b :: A.bl s).Nodup ∧ ∀ c ∈ A.bl s, g.o c = i ∧ g.m c = 0
def OW {α : Type} [GoT α] (A : Ow α) (i : Nat) (g : Gh) (w : World) (x : α) (s : A.S) (v : Value) : Prop :=
 ∃ cs, v = toV (GoT.agg α) cs ∧ A.ow s g.m w x cs ∧ (A.bl s).Nodup ∧ ∀ c ∈ A.bl s, g.o c = i ∧ g.m c = 0
def OWx {α : Type} [GoT α] (A : Ow α) (i : Nat) (g : Gh) (w : World) (x : α) (v : Value) : Prop := ∃ s, OW A i g w x s v ∧ A.ok s
section
variable {α β γ : Type} [GoT α] [GoT β] [GoT γ] {A : Ow α} {B : Ow β} {i j b : Nat} {g g' : Gh} {w w' : World} {t : TypeId} {x : α} {s : A.S} {v : Value}
theorem OV.stp (h : OV A i g w t x b s) (k : Stp j g w g' w') (hne : Nat.beq i j = false) : OV A i g' w' t x b s := by
 have hij : i ≠ j := fun e => by rw [e] at hne; simp at hne
 obtain ⟨cs, h1, h2, h3, h4, h5, h6⟩ := h
 have hb := lt_of_heap h3
 have hn : ∀ c, g.o c = i → g.o c ≠ j := fun c e => by rw [e]; exact hij
 exact ⟨cs, (k.o b hb (hn b h1)).trans h1, (k.m b hb (hn b h1)).trans h2, (k.block b hb (hn b h1)).trans h3, A.mono k.ch (fun c hc => k.block c (A.lt h4 c hc) (hn c (h6 c hc).1)) h4, h5, fun c hc => ⟨(k.o c (A.lt h4 c hc) (hn c (h6 c hc).1)).trans (h6 c hc).1, (k.m c (A.lt h4 c hc) (hn c (h6 c hc).1)).trans (h6 c hc).2⟩⟩
theorem OW.stp (h : OW A i g w x s v) (k : Stp j g w g' w') (hne : Nat.beq i j = false) : OW A i g' w' x s v := by
 have hij : i ≠ j := fun e => by rw [e] at hne; simp at hne
 obtain ⟨cs, h1, h4, h5, h6⟩ := h
 have hn : ∀ c, g.o c = i → g.o c ≠ j := fun c e => by rw [e]; exact hij
 exact ⟨cs, h1, A.mono k.ch (fun c hc => k.block c (A.lt h4 c hc) (hn c (h6 c hc).1)) h4, h5, fun c hc => ⟨(k.o c (A.lt h4 c hc) (hn c (h6 c hc).1)).trans (h6 c hc).1, (k.m c (A.lt h4 c hc) (hn c (h6 c hc).1)).trans (h6 c hc).2⟩⟩
theorem OWx.stp (h : OWx A i g w x v) (k : Stp j g w g' w') (hne : Nat.beq i j = false := by rfl) : OWx A i g' w' x v := let ⟨s, h1, h2⟩ := h; ⟨s, h1.stp k hne, h2⟩
theorem OV.loc (h : OV A i g w t x b s) : LocR A s g.m w b 0 x := by
 obtain ⟨cs, h1, h2, h3, h4, h5, h6⟩ := h
 exact ⟨cs, t, _, h3, h4, fun j v hj => by rw [Nat.zero_add]; simpa using hj⟩
theorem OW.cells (h : OW A i g w x s v) : A.ow s g.m w x v.cells.toList := by
 obtain ⟨cs, rfl, h4, _⟩ := h
 cases ha : GoT.agg α with
 | true => simpa [toV, Value.cells] using h4
 | false =>
  have hk := A.len h4
  rw [GoT.k1 ha] at hk
  match cs, hk with
  | [c], _ =>
   have h0 := A.one h4 c (by simp)
   simp only [toV, cond_false, List.headD_cons, oneCell_cells h0]
   exact h4
/-! ### Published, lent -/
def markT (i : Nat) (g : Gh) (w : World) : Gh := { m := fun b => if g.o b = i then (if g.m b < blkN w b then blkN w b else g.m b) else g.m b, o := g.o }
theorem markT_le (i : Nat) (g : Gh) (w : World) (b : Nat) : g.m b ≤ (markT i g w).m b := by
 show g.m b ≤ if _ then (if _ then _ else _) else _
 split
 ·split <;> omega
 ·exact Nat.le_refl _
theorem markT_stp (i : Nat) (g : Gh) (w : World) : Stp i g w (markT i g w) w :=
 ⟨rfl, rfl, rfl, ch_up (markT_le i g w), fun _ _ _ => rfl, fun b _ hn => by show (if _ then _ else _) = _; rw [if_neg hn], fun _ _ _ => rfl⟩
theorem markT_blk {c : Nat} (h : g.o c = i) : blkN w c ≤ (markT i g w).m c := by
 show _ ≤ if _ then (if _ then _ else _) else _
 rw [if_pos h]; split <;> omega
theorem OV.pub (h : OV A i g w t x b s) (hok : A.ok s) : ∃ g', Stp i g w g' w ∧ PT g'.m w x (.pointer (some ⟨b, 0, none⟩)) := by
 obtain ⟨cs, h1, h2, h3, h4, h5, h6⟩ := h
 refine ⟨_, markT_stp i g w, b, 0, cs.toList, rfl, lt_of_heap h3, ?_, A.pub h4 hok (markT_le i g w) fun c hc => markT_blk (h6 c hc).1, fun j c hj => by simpa [World.cell?, h3] using hj⟩
 have hl := A.len h4
 have h7 := markT_blk (w := w) h1
 unfold blkN at h7; rw [h3] at h7
 rw [Nat.zero_add, ← hl]; simpa using h7
theorem OW.pub (h : OW A i g w x s v) (hok : A.ok s) : ∃ g', Stp i g w g' w ∧ RV g'.m w x v := by
 obtain ⟨cs, h1, h4, h5, h6⟩ := h
 exact ⟨_, markT_stp i g w, cs, A.pub h4 hok (markT_le i g w) fun c hc => markT_blk (h6 c hc).1, h1⟩
/-! ### Tags change -/
def retB (bs : List Nat) (i : Nat) (g : Gh) : Gh := { m := g.m, o := fun c => if c ∈ bs then i else g.o c }
theorem retB_stp {bs : List Nat} (h : ∀ c ∈ bs, g.o c = j) (i : Nat) : Stp j g w (retB bs i g) w :=
 ⟨rfl, rfl, rfl, Ch.refl _ _, fun _ _ _ => rfl, fun _ _ _ => rfl, fun c _ hn => by show (if c ∈ bs then i else g.o c) = g.o c; rw [if_neg fun hc => hn (h c hc)]⟩
theorem OW.retag (h : OW A j g w x s v) (i : Nat) : ∃ g', Stp j g w g' w ∧ g'.m = g.m ∧ OW A i g' w x s v := by
 obtain ⟨cs, h1, h4, h5, h6⟩ := h
 exact ⟨retB (A.bl s) i g, retB_stp (fun c hc => (h6 c hc).1) i, rfl, cs, h1, h4, h5, fun c hc => ⟨if_pos hc, (h6 c hc).2⟩⟩
/-! ### Slices -/
def hdrV {σ : Type} (s : Sl σ) (n : Nat) : Value := match s with | .at b c _ => .slice (some ⟨b, 0, none⟩) n c | .nil => .slice none 0 0 | _ => undef
end
end Go.Proofs.YtkfdjkkbnfohjaaDoor
/- Values that the function owns with all that they lead to: loads, stores, appends. No program is named here. -/
namespace Go.Proofs.YtkfdjkkbnfohjaaDoor
open Go.RowKit

section
variable {α β γ : Type} [GoT α] [GoT β] [GoT γ] {A : Ow α} {B : Ow β} {E : Ow γ} {P : Program} {e : Env} {w : World} {g : Gh} {K : Value → World → Prop} {x y z : Operand}
 {i j b b1 off : Nat} {t t2 : TypeId} {a : α} {s : A.S}
theorem OV.slice {et : TypeId} {st : List γ → α} {put : (Ow.list et E).S → A.S} {ys : List γ} {s' : (Ow.list et E).S} (h : OV A i g w t2 a b s) (c : Cxt A b (Ow.list et E) st b1 off put) (hx : st ys = a) (hs : put s' = s) (ho : (Ow.list et E).ok s') :
  (∃ ad cap, hdrV s' ys.length = .slice ad ys.length cap) ∧ ∀ {k : Int} {v : γ}, idx ys k = some v → ∃ bb cc ss, s' = .at bb cc ss ∧ ss.length = ys.length := by
 subst hx; subst hs
 obtain ⟨carr, et', cs, h1, h2, h3⟩ := c.rd h.loc
 cases s' with
 | nil => exact ⟨⟨none, 0, by rw [h2.1]; rfl⟩, fun hi => by rw [h2.1] at hi; exact (idx_nil hi).elim⟩
 | hole => exact ho.elim
 | sh => exact ho.elim
 | «at» bb cc ss =>
  obtain ⟨_, _, _, carr2, _, _, h4⟩ := h2
  have hl := h4.len
  refine ⟨⟨_, _, rfl⟩, fun _ => ⟨bb, cc, ss, rfl, ?_⟩⟩
  have e := hl.1; exact e
def Lat (i : Nat) (g0 : Gh) (w0 : World) (g : Gh) (w : World) : Prop := Ch g0.m w0 g.m w ∧ ∀ b, b < w0.heap.size → g0.o b = i → w.heap[b]? = w0.heap[b]?
theorem OV.late {g0 : Gh} {w0 : World} (h : OV A i g0 w0 t2 a b s) (k : Lat i g0 w0 g w) : LocR A s g.m w b 0 a := by
 obtain ⟨cs, h1, h2, h3, h4, h5, h6⟩ := h
 exact ⟨cs, t2, _, (k.2 b (lt_of_heap h3) h1).trans h3, A.mono k.1 (fun c hc => k.2 c (A.lt h4 c hc) (h6 c hc).1) h4, fun j v hj => by rw [Nat.zero_add]; simpa using hj⟩
theorem OV.wr {st : β → α} {put : B.S → A.S} {u u' : β} {s1 s2 : B.S} {g' : Gh} {w' : World} (h : OV A i g w t2 (st u) b (put s1)) (c : Cxt A b B st b1 off put) (hl : LocR B s2 g'.m w' b1 off u') (hch : Ch g.m w g'.m w')
  (hb : ∀ c, c = b ∨ c ∈ A.bl (put s1) → c ≠ b1 → c ∉ B.bl s1 → w'.heap[c]? = w.heap[c]?) (hk : Keeps w w' b1 off (GoT.k β)) (hn : (B.bl s2).Nodup) (hs2 : ∀ c ∈ B.bl s2, c ∈ B.bl s1 ∨ (c ≠ b ∧ c ∉ A.bl (put s1)))
  (ht : ∀ c, c = b ∨ c ∈ A.bl (put s1) ∨ c ∈ B.bl s2 → c = b ∨ c ∈ A.bl (put s2) → g'.o c = i ∧ g'.m c = 0) : OV A i g' w' t2 (st u') b (put s2) := by
 obtain ⟨cs, h1, h2, h3, h4, h5, h6⟩ := h
 have hloc : LocR A (put s1) g.m w b 0 (st u) := OV.loc (i := i) (t := t2) ⟨cs, h1, h2, h3, h4, h5, h6⟩
 obtain ⟨q1, q2⟩ := c.bl h5 hn hs2
 obtain ⟨carr, et, cs', r1, r2, r3⟩ := c.wr hloc h5 hl hch hb hk
 have hblk : ∃ carr', w'.heap[b]? = some (.cells carr' t2 (0, 0)) ∧ carr'.size = cs.size := by
  by_cases hbb : b1 = b
  ·subst hbb
   obtain ⟨carr', k1, k2, _⟩ := hk cs t2 h3
   exact ⟨carr', k1, k2⟩
  ·by_cases hbn : b ∈ B.bl s1
   ·exact absurd (c.sub hbn) (List.nodup_cons.1 h5).1
   ·exact ⟨cs, (hb b (.inl rfl) (Ne.symm hbb) hbn).trans h3, rfl⟩
 obtain ⟨carr', k1, k2⟩ := hblk
 rw [k1] at r1
 injection r1 with r1; injection r1 with r1 r4; subst r1; subst r4
 have e1 := A.len h4; have e2 := A.len r2
 have hcs : carr'.toList = cs' := by
  refine List.ext_getElem (by rw [Array.length_toList] at e1 ⊢; omega) fun j a1 a2 => ?_
  have := r3 j _ (List.getElem?_eq_getElem a2)
  rw [Nat.zero_add] at this
  have a3 : j < carr'.size := by simpa using a1
  rw [Array.getElem?_eq_getElem a3] at this
  simpa using Option.some.inj this
 have hb0 := ht b (.inl rfl) (.inl rfl)
 exact ⟨carr', hb0.1, hb0.2, k1, hcs ▸ r2, q1, fun c hc => ht c ((q2 c hc).elim (fun h => .inr (.inl h)) fun h => .inr (.inr h)) (.inr hc)⟩
theorem OV.take {et : TypeId} {st : List γ → α} {put : (Ow.list et E).S → A.S} {ys : List γ} {s' : (Ow.list et E).S} (h : OV A i g w t2 a b s) (c : Cxt A b (Ow.list et E) st b1 off put) (hx : st ys = a) (hs : put s' = s) (ho : (Ow.list et E).ok s') (j : Nat) (hij : Nat.beq i j = false) :
  ∃ g', Stp i g w g' w ∧ OV A i g' w t2 (st []) b (put .hole) ∧ OW (Ow.list et E) j g' w ys s' (hdrV s' ys.length) := by
 subst hx; subst hs
 have hne : i ≠ j := fun e => by rw [e] at hij; simp at hij
 obtain ⟨cs0, p1, p2, p3, p4, p5, p6⟩ := h
 have hloc : LocR A (put s') g.m w b 0 (st ys) := OV.loc (i := i) (t := t2) ⟨cs0, p1, p2, p3, p4, p5, p6⟩
 have hl := c.rd hloc
 obtain ⟨carr, et', cs, h1, h2, h3⟩ := hl
 obtain ⟨o1, o2⟩ := c.out p5
 have hsub : ∀ x ∈ (Ow.list et E).bl s', g.o x = i ∧ g.m x = 0 := fun x hx => p6 x (c.sub hx)
 have hv : cs = [hdrV s' ys.length] := by
  cases s' with
  | nil => rw [h2.2]; rfl
  | hole => exact ho.elim
  | sh => exact ho.elim
  | «at» bb cc ss => exact h2.1
 have hone := (Ow.list et E).one h2 (hdrV s' ys.length) (by rw [hv]; simp)
 refine ⟨retB ((Ow.list et E).bl s') j g, retB_stp (fun c hc => (hsub c hc).1) j, ?_, ⟨cs, by rw [hv]; rfl, h2, o2, fun x hx => ⟨if_pos hx, (hsub x hx).2⟩⟩⟩
 have hnot : ∀ x, x = b ∨ x ∈ A.bl (put (.hole : Sl E.S)) → x ∉ (Ow.list et E).bl s' := by
  intro x hx hb
  rcases hx with e1 | e1
  ·exact (List.nodup_cons.1 p5).1 (e1 ▸ c.sub hb)
  ·exact c.sep (s' := .hole) p5 hb (fun h => by cases h) e1
 refine OV.wr (g := g) (s1 := s') (s2 := .hole) ⟨cs0, p1, p2, p3, p4, p5, p6⟩ c ⟨carr, et', cs, h1, ⟨rfl, _, hv, hone⟩, h3⟩ (Ch.refl _ _) (fun _ _ _ _ => rfl) (fun ca ea hca => ⟨ca, hca, rfl, fun _ _ => rfl⟩) List.nodup_nil (fun _ h => by cases h) fun x hx hx2 => ?_
 have hn := hnot x hx2
 have : g.o x = i ∧ g.m x = 0 := by
  rcases hx with e1 | e1 | e1
  ·rw [e1]; exact ⟨p1, p2⟩
  ·exact p6 x e1
  ·cases e1
 exact ⟨by show (if _ then _ else _) = _; rw [if_neg hn]; exact this.1, this.2⟩
def AL (i : Nat) (g : Gh) (w : World) (b : Nat) (v : Value) : Prop := ∃ cs t, g.o b = i ∧ w.heap[b]? = some (.cells cs t (0, 0)) ∧ v = .agg cs
theorem AL.stp {g' : Gh} {w' : World} {v : Value} (h : AL i g w b v) (k : Stp j g w g' w') (hne : Nat.beq i j = false) : AL i g' w' b v := by
 have hij : i ≠ j := fun e => by rw [e] at hne; simp at hne
 obtain ⟨cs, t, h1, h2, h3⟩ := h
 have hn : g.o b ≠ j := by rw [h1]; exact hij
 exact ⟨cs, t, (k.o b (lt_of_heap h2) hn).trans h1, (k.block b (lt_of_heap h2) hn).trans h2, h3⟩
end
end Go.Proofs.YtkfdjkkbnfohjaaDoor
/- Values that the function owns with all that they lead to: from and to own slices; struct values; what calls hand out. No program is named here. -/
namespace Go.Proofs.YtkfdjkkbnfohjaaDoor
open Go.RowKit

def OVb {α : Type} [GoT α] (A : Ow α) (i : Nat) (g : Gh) (w : World) (t : TypeId) (x : α) (b : Nat) : Prop := ∃ s, OV A i g w t x b s ∧ A.ok s
section
variable {α β γ : Type} [GoT α] [GoT β] [GoT γ] {A : Ow α} {B : Ow β} {i j b : Nat} {g g' : Gh} {w w' : World} {t : TypeId} {x : α} {s : A.S} {v : Value}
theorem OVb.stp (h : OVb A i g w t x b) (k : Stp j g w g' w') (hne : Nat.beq i j = false) : OVb A i g' w' t x b := let ⟨s, h1, h2⟩ := h; ⟨s, h1.stp k hne, h2⟩
theorem RV.ow {u : β} {v : Value} (h : RV g.m w u v) (i : Nat) : OW (Ow.sh β) i g w u () v := let ⟨cs, h1, h2⟩ := h; ⟨cs, h2, h1, List.nodup_nil, fun c hc => by cases hc⟩
structure Wn (A : Ow α) (i : Nat) (g : Gh) (w : World) (x : α) (s : A.S) (cs : List Value) : Prop where
 ow : A.ow s g.m w x cs
 nd : (A.bl s).Nodup
 tg : ∀ c ∈ A.bl s, g.o c = i ∧ g.m c = 0
theorem Wn.shl {y : β} {c2 : List Value} (h : GoT.rep g.m w y c2) (j : Nat) : Wn (Ow.sh β) j g w y () c2 := ⟨h, List.nodup_nil, fun c hc => by cases hc⟩
theorem Wn.stp {k : Nat} {cs : List Value} (h : Wn A i g w x s cs) (hk : Stp k g w g' w') (hne : Nat.beq i k = false) : Wn A i g' w' x s cs := by
 have hij : i ≠ k := fun e => by rw [e] at hne; simp at hne
 have hn : ∀ c, g.o c = i → g.o c ≠ k := fun c e => by rw [e]; exact hij
 exact ⟨A.mono hk.ch (fun c hc => hk.block c (A.lt h.ow c hc) (hn c (h.tg c hc).1)) h.ow, h.nd, fun c hc => ⟨(hk.o c (A.lt h.ow c hc) (hn c (h.tg c hc).1)).trans (h.tg c hc).1, (hk.m c (A.lt h.ow c hc) (hn c (h.tg c hc).1)).trans (h.tg c hc).2⟩⟩
theorem Wn.struct {α : Type} {to : α → β} {x : α} {s : B.S} {cs : List Value} (h : Wn B i g w (to x) s cs) : @Wn α (GoT.struct α to) (Ow.struct to B) i g w x s cs :=
 @Wn.mk α (GoT.struct α to) (Ow.struct to B) i g w x s cs h.ow h.nd h.tg
theorem Wn.fl {cs : List Value} (h : Wn A i g w x s cs) : Wn A i g w x s (cs ++ []) := by rw [List.append_nil]; exact h
theorem Wn.nil (et : TypeId) (A : Ow α) (i : Nat) (g : Gh) (w : World) : Wn (Ow.list et A) i g w [] .nil [.slice none 0 0] := ⟨⟨rfl, rfl⟩, List.nodup_nil, fun c hc => by cases hc⟩
/-! ### What calls hand out -/
end
/-! ### In regions that draw their order -/
section
variable {α β γ : Type} [GoT α] [GoT β] [GoT γ] {A : Ow α} {B : Ow β} {E : Ow γ} {P : Program} {e : Env} {w : World} {g : Gh} {x y : Operand} {i b b1 off : Nat} {t t2 : TypeId} {a0 a1 : α} {s : A.S}
theorem SubS.at_ {α β : Type} [GoT α] [GoT β] {o off : Nat} {f : α → β} {s : α → β → α} (h : SubS o f s) (ho : off = o) : SubS off f s := ho ▸ h
end
end Go.Proofs.YtkfdjkkbnfohjaaDoor
/- Appends to a slice that lies in an own variable, in regions that draw their order. No program is named here. -/
namespace Go.Proofs.YtkfdjkkbnfohjaaDoor
open Go.RowKit

section
variable {P : Program} {e : Env} {w : World} {g : Gh} {K : Value → World → Prop} {x y : Operand}
end
theorem FlatR.split {α : Type} [GoT α] {m : Nat → Nat} {w : World} : ∀ {xs ys : List α} {cs : List Value}, FlatR m w (xs ++ ys) cs → ∃ o1 o2, cs = o1 ++ o2 ∧ FlatR m w xs o1 ∧ FlatR m w ys o2
 | [], _, cs, h => ⟨[], cs, rfl, rfl, h⟩
 | _ :: _, _, _, ⟨c1, _, rfl, h1, h2⟩ => by
  obtain ⟨o1, o2, rfl, k1, k2⟩ := FlatR.split h2
  exact ⟨c1 ++ o1, o2, by rw [List.append_assoc], ⟨c1, o1, rfl, h1, k1⟩, k2⟩

section
variable {α : Type} [GoT α] {i : Nat} {et : TypeId} {xs r : List α} {u : Value} {g g' : Gh} {w w' : World}
variable {P : Program} {N : Nat}
end
theorem L_self {α : Type} [GoT α] {A : Ow α} {P : Program} {g0 : Gh} {w0 : World} {i b : Nat} {t t2 : TypeId} {a : α} {s : A.S} {K : Prop} (ha : ∀ w, (isAgg t).run P w = .ok (GoT.agg α) w) (hsz : ∀ w, (sizeOf t).run P w = .ok (GoT.k α) w) (hag : GoT.agg α = true) (h : OV A i g0 w0 t2 a b s)
  (k : ∀ v, (∀ (x : Operand) (e : Env) (g : Gh) (w : World), (Ch g0.m w0 g.m w ∧ ∀ c, c < w0.heap.size → g0.o c = i → w.heap[c]? = w0.heap[c]?) → ev e x = .pointer (some ⟨b, 0, none⟩) → ∀ d ty pos af gd, (execOp (ev e) ⟨d, .load t x, ty, pos, af, gd⟩).run P w = .ok (.value v) w) →
   (∀ (x y : Operand) (e : Env) (g : Gh) (w : World), (Ch g0.m w0 g.m w ∧ ∀ c, c < w0.heap.size → g0.o c = i → w.heap[c]? = w0.heap[c]?) → ev e x = .pointer (some ⟨b, 0, none⟩) → ev e y = v → Doe P (.store t x y) e w fun _ w' => ∃ g', Ext g w g' w' ∧ True) → K) : K := by
 obtain ⟨cs, p1, p2, p3, p4, p5, p6⟩ := h
 have hl := A.len p4
 have hl2 : cs.size = GoT.k α := by simpa using hl
 refine k (.agg cs) (fun x e g w hc hx d ty pos af gd => ?_) (fun x y e g w hc hx hy d ty pos af gd => ?_)
 ·have hh : w.heap[b]? = some (.cells cs t2 (0, 0)) := (hc.2 b (lt_of_heap p3) p1).trans p3
  have h1 := run_loadCells_list (P := P) w ⟨b, 0, none⟩ cs.toList (fun j c hj => by rw [addr_add]; simpa [World.cell?, hh] using hj)
  rw [hl] at h1
  have hrun : (loadVar t ⟨b, 0, none⟩).run P w = .ok (.agg cs) w := by
   unfold loadVar
   rw [hag] at ha
   simp [Sem.run_bind, ha, hsz, Result.andThen, h1]
  simp [execOp, hx, Instr.loadAt, Instr.sureAddr, Result.andThen, hrun]
 ·have hh : w.heap[b]? = some (.cells cs t2 (0, 0)) := (hc.2 b (lt_of_heap p3) p1).trans p3
  have hrow : cs.toList.take 0 ++ (Value.agg cs).cells.toList ++ cs.toList.drop (0 + (Value.agg cs).cells.size) = cs.toList := by
   rw [List.take_zero, List.nil_append, List.drop_of_length_le (by show _ ≤ 0 + cs.size; simp), List.append_nil]; rfl
  have hrun := storeVar_run (P := P) (t := t) (v := .agg cs) (b := b) (o := 0) (w := w) (by show ∀ w, (sizeOf t).run P w = .ok cs.size w; rw [hl2]; exact hsz) hh (by show 0 + cs.size ≤ _; simp) (by show ∀ c ∈ cs.toList, _; exact A.one p4)
  rw [hrow] at hrun
  have hrun2 : (execOp (ev e) ⟨d, .store t x y, ty, pos, af, gd⟩).run P w = .ok .skip (w.setRow b cs.toList.toArray) := by
   simp [execOp, hx, hy, Instr.storeAt, Instr.sureAddr, Result.andThen, hrun]
  unfold doE; rw [hrun2]
  refine ⟨g, ⟨⟨rfl, rfl, rfl, by rw [setRow_size]; exact Nat.le_refl _, fun b' _ => ?_⟩, fun _ _ => rfl, fun _ _ => rfl⟩, trivial⟩
  by_cases hbb : b' = b
  ·subst hbb; rw [setRow_cells _ _ hh, hh]
  ·exact setRow_other b _ hbb
theorem L_selfO {α : Type} [GoT α] {P : Program} {g0 : Gh} {w0 : World} {i : Nat} {t t2 : TypeId} {a : α} {p : Value} {K : Prop} (ha : ∀ w, (isAgg t).run P w = .ok (GoT.agg α) w) (hsz : ∀ w, (sizeOf t).run P w = .ok (GoT.k α) w) (hag : GoT.agg α = true) (h : OB i g0 w0 t2 a p)
  (k : ∀ v, (∀ (x : Operand) (e : Env) (g : Gh) (w : World), (Ch g0.m w0 g.m w ∧ ∀ c, c < w0.heap.size → g0.o c = i → w.heap[c]? = w0.heap[c]?) → ev e x = p → ∀ d ty pos af gd, (execOp (ev e) ⟨d, .load t x, ty, pos, af, gd⟩).run P w = .ok (.value v) w) →
   (∀ (x y : Operand) (e : Env) (g : Gh) (w : World), (Ch g0.m w0 g.m w ∧ ∀ c, c < w0.heap.size → g0.o c = i → w.heap[c]? = w0.heap[c]?) → ev e x = p → ev e y = v → Doe P (.store t x y) e w fun _ w' => ∃ g', Ext g w g' w' ∧ True) → K) : K := by
 obtain ⟨b, cs, rfl, p1, p2, p3, p4⟩ := h
 exact L_self (A := Ow.sh α) (s := ()) ha hsz hag ⟨cs, p1, p2, p3, p4, by simp [Ow.sh], fun c hc => by cases hc⟩ k
end Go.Proofs.YtkfdjkkbnfohjaaDoor
/- Maps that lie in variables and behind pointers; pointers as data. No program is named here. -/
namespace Go.Proofs.YtkfdjkkbnfohjaaDoor
open Go.RowKit
/-! ### Pointers as data -/
structure Ptr (α : Type) where
 x : α
theorem PT.one {α : Type} [GoT α] {m : Nat → Nat} {w : World} {x : α} {v : Value} (h : PT m w x v) : v.oneCell' = true := by
 obtain ⟨b, o, cs, rfl, _⟩ := h; simp [Value.oneCell']
instance {α : Type} [GoT α] : GoT (Ptr α) where
 k := 1
 agg := false
 rep m w p cs := ∃ v, cs = [v] ∧ PT m w p.x v
 len h := by obtain ⟨v, rfl, _⟩ := h; rfl
 one h := by obtain ⟨v, rfl, h⟩ := h; simpa using h.one
 mono k h := by obtain ⟨v, rfl, h⟩ := h; exact ⟨v, rfl, h.ch k⟩
 k1 _ := rfl
structure MapRef where
 deriving DecidableEq, Inhabited
instance : GoT MapRef where
 k := 1
 agg := false
 rep _ _ _ cs := ∃ b, cs = [.map b]
 len h := by obtain ⟨b, rfl⟩ := h; rfl
 one h := by obtain ⟨b, rfl⟩ := h; simp [Value.oneCell']
 mono _ h := h
 k1 _ := rfl
/-! ### A cell that stays -/
def FC (m : Nat → Nat) (w : World) (off : Nat) (v p : Value) : Prop := ∃ b o, p = .pointer (some ⟨b, o, none⟩) ∧ b < w.heap.size ∧ o + off < m b ∧ w.cell? ⟨b, o + off, none⟩ = some v
section
variable {m m' : Nat → Nat} {w w' : World} {g g' : Gh} {off : Nat} {v p : Value}
theorem FC.ch (h : FC m w off v p) (k : Ch m w m' w') : FC m' w' off v p := by
 obtain ⟨b, o, rfl, hb, hm, hc⟩ := h
 exact ⟨b, o, rfl, Nat.lt_of_lt_of_le hb k.size, Nat.lt_of_lt_of_le hm (k.marks b hb), (k.cells b hb _ hm).trans hc⟩
theorem FC.stp {i : Nat} (h : FC g.m w off v p) (k : Stp i g w g' w') : FC g'.m w' off v p := h.ch k.ch
end
section
variable {P : Program} {e : Env} {w : World} {g : Gh} {K : Value → World → Prop} {x y : Operand} {off : Nat} {u p : Value} {t : TypeId}
end
/-! ### Maps in variables -/
section
variable {κ ν : Type} [GoT ν] {enc : κ → Value} {i j k : Nat} {g g' : Gh} {w w' : World} {bt : TypeId} {xs : List (κ × ν)} {p v : Value}
def BM (enc : κ → Value) (i j : Nat) (g : Gh) (w : World) (bt : TypeId) (xs : List (κ × ν)) (p : Value) : Prop := ∃ q : Fv, OB i g w bt q p ∧ MP enc j g w xs q.v
theorem BM.stp (h : BM enc i j g w bt xs p) (hx : Stp k g w g' w') (h1 : Nat.beq i k = false) (h2 : Nat.beq j k = false := by rfl) : BM enc i j g' w' bt xs p := let ⟨q, k1, k2⟩ := h; ⟨q, k1.stp hx h1, k2.stp hx h2⟩
end
end Go.Proofs.YtkfdjkkbnfohjaaDoor
