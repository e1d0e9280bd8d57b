/- Values that the function owns with all that they lead to: from and to own slices; struct values; what calls hand out. No program is named here. -/
import Derived.Test.YtkmbkaoolacofaaGreatOy
namespace Go.Proofs.YtkmbkaoolacofaaGreat
open Go.RowKit

def OVb {α : Type} [GoT α] (A : Ow α) (i : Nat) (g : Gh) (w : World) (t : TypeId) (x : α) (b : Nat) : Prop := ∃ s, OV A i g w t x b s ∧ A.ok s
section
variable {α β γ : Type} [GoT α] [GoT β] [GoT γ] {A : Ow α} {B : Ow β} {i j b : Nat} {g g' : Gh} {w w' : World} {t : TypeId} {x : α} {s : A.S} {v : Value}
theorem OVb.ext (h : OVb A i g w t x b) (k : Ext g w g' w') : OVb A i g' w' t x b := let ⟨s, h1, h2⟩ := h; ⟨s, h1.ext k, h2⟩
theorem OVb.stp (h : OVb A i g w t x b) (k : Stp j g w g' w') (hne : Nat.beq i j = false) : OVb A i g' w' t x b := let ⟨s, h1, h2⟩ := h; ⟨s, h1.stp k hne, h2⟩
theorem sh_flat : ∀ l : List (Ow.sh α).S, l.flatMap (Ow.sh α).bl = []
 | [] => rfl
 | s :: l => by rw [List.flatMap_cons, sh_flat l]; rfl
theorem OA.toW {et : TypeId} {xs : List α} (h : OA i g w et xs v) : OWx (Ow.list et (Ow.sh α)) i g w xs v := by
 rcases h with ⟨rfl, rfl⟩ | ⟨b, c, cs, rfl, ho, hm, hh, h1, h2, h3, hf⟩
 ·exact ⟨.nil, ⟨_, rfl, ⟨rfl, rfl⟩, List.nodup_nil, fun c hc => by cases hc⟩, trivial⟩
 ·have hbl : (Ow.list et (Ow.sh α)).bl (.at b c (List.replicate xs.length ())) = [b] := congrArg (List.cons b) (sh_flat (α := α) _)
  refine ⟨.at b c (List.replicate xs.length ()), ⟨_, rfl, ⟨rfl, h1, h2, cs, hh, h3, flat_rows hf⟩, by rw [hbl]; simp, fun x hx => ?_⟩, fun _ _ => trivial⟩
  rw [hbl, List.mem_singleton] at hx
  rw [hx]; exact ⟨ho, hm⟩
theorem OB.toOV {β : Type} [GoT β] (A : Ow β) {i : Nat} {g : Gh} {w : World} {t : TypeId} {x : β} {p : Value} (h : OB i g w t x p) : ∃ b, p = .pointer (some ⟨b, 0, none⟩) ∧ OV A i g w t x b A.s0 := by
 obtain ⟨b, cs, rfl, ho, hm, hh, hr⟩ := h
 exact ⟨b, rfl, cs, ho, hm, hh, A.of hr, by rw [A.s0bl]; simp, fun c hc => by rw [A.s0bl] at hc; cases hc⟩
theorem OA.toW0 {β : Type} [GoT β] (E : Ow β) {i : Nat} {g : Gh} {w : World} {v : Value} {et : TypeId} (h : OA i g w et ([] : List β) v) : OWx (Ow.list et E) i g w [] v := by
 rcases h with ⟨rfl, _⟩ | ⟨b, c, cs, rfl, ho, hm, hh, h1, h2, h3, hf⟩
 ·exact ⟨.nil, ⟨_, rfl, ⟨rfl, rfl⟩, List.nodup_nil, fun c hc => by cases hc⟩, trivial⟩
 ·have hbl : (Ow.list et E).bl (.at b c []) = [b] := rfl
  refine ⟨.at b c [], ⟨_, rfl, ⟨rfl, h1, h2, cs, hh, h3, ⟨rfl, by simp⟩⟩, by rw [hbl]; simp, fun x hx => ?_⟩, fun _ hq => by cases hq⟩
  rw [hbl, List.mem_singleton] at hx
  rw [hx]; exact ⟨ho, hm⟩
theorem OW.toA {et : TypeId} {xs : List α} {s : (Ow.list et (Ow.sh α)).S} (h : OW (Ow.list et (Ow.sh α)) i g w xs s v) (hok : (Ow.list et (Ow.sh α)).ok s) : OA i g w et xs v := by
 obtain ⟨cs, rfl, h4, h5, h6⟩ := h
 cases s with
 | nil => exact .inl ⟨by rw [h4.2]; rfl, h4.1⟩
 | hole => exact hok.elim
 | sh => exact hok.elim
 | «at» bb cc ss =>
  obtain ⟨q1, q2, q3, carr, q4, q5, q6⟩ := h4
  have := h6 bb (by show bb ∈ bb :: _; simp)
  exact .inr ⟨bb, cc, carr, by rw [q1]; rfl, this.1, this.2, q4, q2, q3, q5, rows_flat q6⟩
theorem RV.ow {u : β} {v : Value} (h : RV g.m w u v) (i : Nat) : OW (Ow.sh β) i g w u () v := let ⟨cs, h1, h2⟩ := h; ⟨cs, h2, h1, List.nodup_nil, fun c hc => by cases hc⟩
structure Wn (A : Ow α) (i : Nat) (g : Gh) (w : World) (x : α) (s : A.S) (cs : List Value) : Prop where
 ow : A.ow s g.m w x cs
 nd : (A.bl s).Nodup
 tg : ∀ c ∈ A.bl s, g.o c = i ∧ g.m c = 0
theorem Wn.shl {y : β} {c2 : List Value} (h : GoT.rep g.m w y c2) (j : Nat) : Wn (Ow.sh β) j g w y () c2 := ⟨h, List.nodup_nil, fun c hc => by cases hc⟩
theorem Wn.stp {k : Nat} {cs : List Value} (h : Wn A i g w x s cs) (hk : Stp k g w g' w') (hne : Nat.beq i k = false) : Wn A i g' w' x s cs := by
 have hij : i ≠ k := fun e => by rw [e] at hne; simp at hne
 have hn : ∀ c, g.o c = i → g.o c ≠ k := fun c e => by rw [e]; exact hij
 exact ⟨A.mono hk.ch (fun c hc => hk.block c (A.lt h.ow c hc) (hn c (h.tg c hc).1)) h.ow, h.nd, fun c hc => ⟨(hk.o c (A.lt h.ow c hc) (hn c (h.tg c hc).1)).trans (h.tg c hc).1, (hk.m c (A.lt h.ow c hc) (hn c (h.tg c hc).1)).trans (h.tg c hc).2⟩⟩
theorem Wn.nil (et : TypeId) (A : Ow α) (i : Nat) (g : Gh) (w : World) : Wn (Ow.list et A) i g w [] .nil [.slice none 0 0] := ⟨⟨rfl, rfl⟩, List.nodup_nil, fun c hc => by cases hc⟩
/-! ### What calls hand out -/
def Ow.free (A : Ow α) : Prop := ∀ {s : A.S} {m m' : Nat → Nat} {w : World} {x : α} {cs : List Value}, A.ok s → A.ow s m w x cs → A.ow s m' w x cs
theorem free_sh (h : Plain α) : (Ow.sh α).free := fun _ hw => h _ _ _ _ _ _ hw
theorem rows_free (h : A.free) {m m' : Nat → Nat} {w : World} : ∀ {ss : List A.S} {xs : List α} {cs : List Value}, (∀ s ∈ ss, A.ok s) → Rows A m w ss xs cs → Rows A m' w ss xs cs
 | [], _, _, _, h' => h'
 | _ :: _, _, _, hok, ⟨x, xs', c1, c2, h1, h2, h3, h4⟩ => ⟨x, xs', c1, c2, h1, h2, h (hok _ (by simp)) h3, rows_free h (fun s hs => hok s (by simp [hs])) h4⟩
theorem free_list (et : TypeId) (h : A.free) : (Ow.list et A).free := fun {s m m' w x cs} hok hw => by
 cases s with
 | nil => exact hw
 | hole => exact hok.elim
 | sh => exact hok.elim
 | «at» bb cc ss => obtain ⟨q1, q2, q3, carr, q4, q5, q6⟩ := hw; exact ⟨q1, q2, q3, carr, q4, q5, rows_free h hok q6⟩
theorem free_pair (h1 : A.free) (h2 : B.free) : (Ow.pair A B).free := fun hok hw => by obtain ⟨c1, c2, e, a1, a2⟩ := hw; exact ⟨c1, c2, e, h1 hok.1 a1, h2 hok.2 a2⟩
theorem free_struct {α : Type} {to : α → β} (h : B.free) : @Ow.free α (GoT.struct α to) (Ow.struct to B) := fun hok hw => h hok hw
theorem OWx.unlendV (hf : A.free) {g1 : Gh} (hx : Ext (Go.Proofs.YtkmbkaoolacofaaGreat.lent g w) w g1 w') (h : OWx A i g1 w' x v) : ∃ g2, Ext g w g2 w' ∧ RV g2.m w' x v := by
 obtain ⟨s, ⟨cs, h1, h4, h5, h6⟩, hok⟩ := h
 refine ⟨{ m := fun c => if c < w.heap.size then g.m c else max (blkN w' c) (g1.m c), o := g1.o }, ⟨hx.below, fun b hb => by simp [hb], hx.o⟩, cs, A.pub (hf hok h4) hok (fun b => Nat.le_refl _) (fun c hc => ?_), h1⟩
 show blkN w' c ≤ if c < w.heap.size then g.m c else max (blkN w' c) (g1.m c)
 split
 ·rename_i hlt
  have a1 := hx.m c hlt
  have a2 := (h6 c hc).2
  have a3 := blkN_all w g.m c
  have a4 : (Go.Proofs.YtkmbkaoolacofaaGreat.lent g w).m c = allM w g.m c := rfl
  have a5 : blkN w' c = blkN w c := by unfold blkN; rw [hx.below.block c hlt]
  omega
 ·omega
theorem set_unit {ss : List Unit} {i : Nat} : ss.set i () = ss := by
 apply List.ext_getElem (by simp)
 intro j h1 h2; rfl
end
/-! ### In regions that draw their order -/
section
variable {α β γ : Type} [GoT α] [GoT β] [GoT γ] {A : Ow α} {B : Ow β} {E : Ow γ} {P : Program} {e : Env} {w : World} {g : Gh} {x y : Operand} {i b b1 off : Nat} {t t2 : TypeId} {a0 a1 : α} {s : A.S}
theorem SubS.at_ {α β : Type} [GoT α] [GoT β] {o off : Nat} {f : α → β} {s : α → β → α} (h : SubS o f s) (ho : off = o) : SubS off f s := ho ▸ h
end
end Go.Proofs.YtkmbkaoolacofaaGreat
/- Appends to a slice that lies in an own variable, in regions that draw their order. No program is named here. -/
namespace Go.Proofs.YtkmbkaoolacofaaGreat
open Go.RowKit

section
variable {P : Program} {e : Env} {w : World} {g : Gh} {K : Value → World → Prop} {x y : Operand}
end
theorem FlatR.split {α : Type} [GoT α] {m : Nat → Nat} {w : World} : ∀ {xs ys : List α} {cs : List Value}, FlatR m w (xs ++ ys) cs → ∃ o1 o2, cs = o1 ++ o2 ∧ FlatR m w xs o1 ∧ FlatR m w ys o2
 | [], _, cs, h => ⟨[], cs, rfl, rfl, h⟩
 | _ :: _, _, _, ⟨c1, _, rfl, h1, h2⟩ => by
  obtain ⟨o1, o2, rfl, k1, k2⟩ := FlatR.split h2
  exact ⟨c1 ++ o1, o2, by rw [List.append_assoc], ⟨c1, o1, rfl, h1, k1⟩, k2⟩

def AS {α : Type} [GoT α] (i : Nat) (et : TypeId) (xs r : List α) (u : Value) (g : Gh) (w : World) : Prop :=
 (RV g.m w xs u ∧ OS i g w et xs u) ∨ ∃ b c, u = .slice (some ⟨b, 0, none⟩) xs.length c ∧ RV g.m w r (.slice (some ⟨b, 0, none⟩) r.length c) ∧ OS i g w et r (.slice (some ⟨b, 0, none⟩) r.length c)
section
variable {α : Type} [GoT α] {i : Nat} {et : TypeId} {xs r : List α} {u : Value} {g g' : Gh} {w w' : World}
theorem AS.ext (h : AS i et xs r u g w) (k : Ext g w g' w') : AS i et xs r u g' w' := by
 rcases h with ⟨h1, h2⟩ | ⟨b, c, h0, h1, h2⟩
 ·exact .inl ⟨h1.ext k, h2.ext k⟩
 ·exact .inr ⟨b, c, h0, h1.ext k, h2.ext k⟩
variable {P : Program} {N : Nat}
end
theorem P_fieldAddrH {P : Program} {e : Env} {x : Operand} {b d off : Nat} {s : TypeId} {i : Nat} (hf : ∀ (a : Addr) w, (Instr.fieldAt s (.pointer (some a)) i).run P w = .ok (.pointer (some (a.add d))) w) (hx : ev e x = .pointer (some ⟨b, off, none⟩)) : Pur P (.fieldAddr s x i) e (.pointer (some ⟨b, off + d, none⟩)) :=
 P_fieldAddr hf hx ⟨_, _, rfl⟩
end Go.Proofs.YtkmbkaoolacofaaGreat
/- Maps that lie in variables and behind pointers; pointers as data. No program is named here. -/
namespace Go.Proofs.YtkmbkaoolacofaaGreat
open Go.RowKit
/-! ### Pointers as data -/
structure Ptr (α : Type) where
 x : α
theorem PT.one {α : Type} [GoT α] {m : Nat → Nat} {w : World} {x : α} {v : Value} (h : PT m w x v) : v.oneCell' = true := by
 obtain ⟨b, o, cs, rfl, _⟩ := h; simp [Value.oneCell']
instance {α : Type} [GoT α] : GoT (Ptr α) where
 k := 1
 agg := false
 rep m w p cs := ∃ v, cs = [v] ∧ PT m w p.x v
 len h := by obtain ⟨v, rfl, _⟩ := h; rfl
 one h := by obtain ⟨v, rfl, h⟩ := h; simpa using h.one
 mono k h := by obtain ⟨v, rfl, h⟩ := h; exact ⟨v, rfl, h.ch k⟩
 k1 _ := rfl
structure MapRef where
 deriving DecidableEq, Inhabited
instance : GoT MapRef where
 k := 1
 agg := false
 rep _ _ _ cs := ∃ b, cs = [.map b]
 len h := by obtain ⟨b, rfl⟩ := h; rfl
 one h := by obtain ⟨b, rfl⟩ := h; simp [Value.oneCell']
 mono _ h := h
 k1 _ := rfl
/-! ### A cell that stays -/
def FC (m : Nat → Nat) (w : World) (off : Nat) (v p : Value) : Prop := ∃ b o, p = .pointer (some ⟨b, o, none⟩) ∧ b < w.heap.size ∧ o + off < m b ∧ w.cell? ⟨b, o + off, none⟩ = some v
section
variable {m m' : Nat → Nat} {w w' : World} {g g' : Gh} {off : Nat} {v p : Value}
theorem FC.ch (h : FC m w off v p) (k : Ch m w m' w') : FC m' w' off v p := by
 obtain ⟨b, o, rfl, hb, hm, hc⟩ := h
 exact ⟨b, o, rfl, Nat.lt_of_lt_of_le hb k.size, Nat.lt_of_lt_of_le hm (k.marks b hb), (k.cells b hb _ hm).trans hc⟩
theorem FC.ext (h : FC g.m w off v p) (k : Ext g w g' w') : FC g'.m w' off v p := h.ch k.ch
theorem FC.stp {i : Nat} (h : FC g.m w off v p) (k : Stp i g w g' w') : FC g'.m w' off v p := h.ch k.ch
end
section
variable {P : Program} {e : Env} {w : World} {g : Gh} {K : Value → World → Prop} {x y : Operand} {off : Nat} {u p : Value} {t : TypeId}
end
/-! ### Maps in variables -/
section
variable {κ ν : Type} [GoT ν] {enc : κ → Value} {i j k : Nat} {g g' : Gh} {w w' : World} {bt : TypeId} {xs : List (κ × ν)} {p v : Value}
def BM (enc : κ → Value) (i j : Nat) (g : Gh) (w : World) (bt : TypeId) (xs : List (κ × ν)) (p : Value) : Prop := ∃ q : Fv, OB i g w bt q p ∧ MP enc j g w xs q.v
theorem BM.ext (h : BM enc i j g w bt xs p) (hx : Ext g w g' w') : BM enc i j g' w' bt xs p := let ⟨q, h1, h2⟩ := h; ⟨q, h1.ext hx, h2.ext hx⟩
theorem BM.stp (h : BM enc i j g w bt xs p) (hx : Stp k g w g' w') (h1 : Nat.beq i k = false) (h2 : Nat.beq j k = false := by rfl) : BM enc i j g' w' bt xs p := let ⟨q, k1, k2⟩ := h; ⟨q, k1.stp hx h1, k2.stp hx h2⟩
end
end Go.Proofs.YtkmbkaoolacofaaGreat
/- A region that draws its order, whose operations that change something come in one order: walked in the order of its text. No program is named here. -/
namespace Go.Proofs.YtkmbkaoolacofaaGreat
open Go.RowKit
section
variable {P : Program} {ops : Array Oper}
variable {late : Nat → Bool} {L : World → Prop} {Q : Env → World → Prop}
structure ApartC (ops : Array Oper) (oi oj : Oper) : Prop where
 ci : clearOf ops oi oj.dst = true
 cj : clearOf ops oj oi.dst = true
 dd : ∀ d, oi.dst = some d → oj.dst ≠ some d
 si : isSel oi = false
 sj : isSel oj = false
def LTg (U : List Nat) (g0 : Gh) (w0 : World) (g : Gh) (w : World) : Prop := Ch g0.m w0 g.m w ∧ ∀ b, b < w0.heap.size → U.contains (g0.o b) = true → w.heap[b]? = w0.heap[b]? ∧ g.o b = g0.o b
section
variable {U : List Nat} {g0 g g' : Gh} {w0 w w' : World}
theorem LTg.start : LTg U g0 w0 g0 w0 := ⟨Ch.refl _ _, fun _ _ _ => ⟨rfl, rfl⟩⟩
theorem LTg.ext (h : LTg U g0 w0 g w) (k : Ext g w g' w') : LTg U g0 w0 g' w' :=
 ⟨h.1.trans k.ch, fun b hb hu => ⟨(k.below.block b (Nat.lt_of_lt_of_le hb h.1.size)).trans (h.2 b hb hu).1, (k.o b (Nat.lt_of_lt_of_le hb h.1.size)).trans (h.2 b hb hu).2⟩⟩
theorem LTg.stp {i : Nat} (h : LTg U g0 w0 g w) (k : Stp i g w g' w') (hi : U.contains i = false := by rfl) : LTg U g0 w0 g' w' :=
 ⟨h.1.trans k.ch, fun b hb hu => by
  have hne : g.o b ≠ i := fun he => by rw [(h.2 b hb hu).2] at he; rw [he, hi] at hu; cases hu
  exact ⟨(k.block b (Nat.lt_of_lt_of_le hb h.1.size) hne).trans (h.2 b hb hu).1, (k.o b (Nat.lt_of_lt_of_le hb h.1.size) hne).trans (h.2 b hb hu).2⟩⟩
def LTw (U : List Nat) (g0 : Gh) (w0 : World) (w : World) : Prop := ∃ g, LTg U g0 w0 g w
theorem LTg.toW (h : LTg U g0 w0 g w) : LTw U g0 w0 w := ⟨_, h⟩
theorem LTw.blk {w : World} {n : Nat} (h : LTw U g0 w0 w) (hn : U.contains n = true := by rfl) : ∃ g : Gh, Ch g0.m w0 g.m w ∧ ∀ b, b < w0.heap.size → g0.o b = n → w.heap[b]? = w0.heap[b]? := let ⟨g, h1, h2⟩ := h; ⟨g, h1, fun b hb ho => (h2 b hb (by rw [ho]; exact hn)).1⟩
theorem LTw.ch {w : World} (h : LTw U g0 w0 w) : ∃ g : Gh, Ch g0.m w0 g.m w := let ⟨g, h1, _⟩ := h; ⟨g, h1⟩
end
end
section
variable {P : Program} {ops : Array Oper} {late : Nat → Bool} {U : List Nat} {g0 : Gh} {w0 : World} {Q : Env → World → Prop} {i : Nat} {l : List Nat} {e : Env} {w : World} {op : Op} {ty : TypeId} {pos : String} {af : Array Edge} {gd : Option (Nat × Bool)} {d : Option Tmp}
end
theorem AL.lt {U : List Nat} {i : Nat} {g0 g : Gh} {w0 w : World} {b : Nat} {v : Value} (h : AL i g0 w0 b v) (k : LTg U g0 w0 g w) (hn : U.contains i = true) : AL i g w b v := by
 obtain ⟨cs, t, h1, h2, h3⟩ := h
 have := k.2 b (lt_of_heap h2) (by rw [h1]; exact hn)
 exact ⟨cs, t, this.2.trans h1, this.1.trans h2, h3⟩
end Go.Proofs.YtkmbkaoolacofaaGreat
