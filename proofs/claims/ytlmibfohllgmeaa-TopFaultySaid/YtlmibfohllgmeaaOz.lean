/- Values that the function owns with all that they lead to: from and to own slices; struct values; what calls hand out. No program is named here. -/
import Derived.Test.YtlmibfohllgmeaaOy
namespace Go.Proofs.Ytlmibfohllgmeaa
open Go.RowKit

def OVb {α : Type} [GoT α] (A : Ow α) (i : Nat) (g : Gh) (w : World) (t : TypeId) (x : α) (b : Nat) : Prop := ∃ s, OV A i g w t x b s ∧ A.ok s
section
variable {α β γ : Type} [GoT α] [GoT β] [GoT γ] {A : Ow α} {B : Ow β} {i j b : Nat} {g g' : Gh} {w w' : World} {t : TypeId} {x : α} {s : A.S} {v : Value}
theorem OVb.ext (h : OVb A i g w t x b) (k : Ext g w g' w') : OVb A i g' w' t x b := let ⟨s, h1, h2⟩ := h; ⟨s, h1.ext k, h2⟩
theorem OVb.stp (h : OVb A i g w t x b) (k : Stp j g w g' w') (hne : Nat.beq i j = false) : OVb A i g' w' t x b := let ⟨s, h1, h2⟩ := h; ⟨s, h1.stp k hne, h2⟩
theorem Fm : ∀ l : List (Ow.sh α).S, l.flatMap (Ow.sh α).bl = []
 | [] => rfl
 | s :: l => by rw [List.flatMap_cons, Fm l]; rfl
theorem OA.toW {et : TypeId} {xs : List α} (h : OA i g w et xs v) : OWx (Ow.list et (Ow.sh α)) i g w xs v := by
 rcases h with ⟨rfl, rfl⟩ | ⟨b, c, cs, rfl, ho, hm, hh, h1, h2, h3, hf⟩
 ·exact ⟨.nil, ⟨_, rfl, ⟨rfl, rfl⟩, List.nodup_nil, fun c hc => by cases hc⟩, trivial⟩
 ·have hbl : (Ow.list et (Ow.sh α)).bl (.at b c (List.replicate xs.length ())) = [b] := congrArg (List.cons b) (Fm (α := α) _)
  refine ⟨.at b c (List.replicate xs.length ()), ⟨_, rfl, ⟨rfl, h1, h2, cs, hh, h3, Se hf⟩, by rw [hbl]; simp, fun x hx => ?_⟩, fun _ _ => trivial⟩
  rw [hbl, List.mem_singleton] at hx
  rw [hx]; exact ⟨ho, hm⟩
theorem OW.toA {et : TypeId} {xs : List α} {s : (Ow.list et (Ow.sh α)).S} (h : OW (Ow.list et (Ow.sh α)) i g w xs s v) (hok : (Ow.list et (Ow.sh α)).ok s) : OA i g w et xs v := by
 obtain ⟨cs, rfl, h4, h5, h6⟩ := h
 cases s with
 | nil => exact .inl ⟨by rw [h4.2]; rfl, h4.1⟩
 | hole => exact hok.elim
 | sh => exact hok.elim
 | «at» bb cc ss =>
  obtain ⟨q1, q2, q3, carr, q4, q5, q6⟩ := h4
  have := h6 bb (by show bb ∈ bb :: _; simp)
  exact .inr ⟨bb, cc, carr, by rw [q1]; rfl, this.1, this.2, q4, q2, q3, q5, Fh q6⟩
theorem RV.ow {u : β} {v : Value} (h : RV g.m w u v) (i : Nat) : OW (Ow.sh β) i g w u () v := let ⟨cs, h1, h2⟩ := h; ⟨cs, h2, h1, List.nodup_nil, fun c hc => by cases hc⟩
structure Wn (A : Ow α) (i : Nat) (g : Gh) (w : World) (x : α) (s : A.S) (cs : List Value) : Prop where
 ow : A.ow s g.m w x cs
 nd : (A.bl s).Nodup
 tg : ∀ c ∈ A.bl s, g.o c = i ∧ g.m c = 0
theorem Wn.shl {y : β} {c2 : List Value} (h : GoT.rep g.m w y c2) (j : Nat) : Wn (Ow.sh β) j g w y () c2 := ⟨h, List.nodup_nil, fun c hc => by cases hc⟩
theorem Wn.stp {k : Nat} {cs : List Value} (h : Wn A i g w x s cs) (hk : Stp k g w g' w') (hne : Nat.beq i k = false) : Wn A i g' w' x s cs := by
 have hij : i ≠ k := fun e => by rw [e] at hne; simp at hne
 have hn : ∀ c, g.o c = i → g.o c ≠ k := fun c e => by rw [e]; exact hij
 exact ⟨A.mono hk.ch (fun c hc => hk.block c (A.lt h.ow c hc) (hn c (h.tg c hc).1)) h.ow, h.nd, fun c hc => ⟨(hk.o c (A.lt h.ow c hc) (hn c (h.tg c hc).1)).trans (h.tg c hc).1, (hk.m c (A.lt h.ow c hc) (hn c (h.tg c hc).1)).trans (h.tg c hc).2⟩⟩
theorem Wn.nil (et : TypeId) (A : Ow α) (i : Nat) (g : Gh) (w : World) : Wn (Ow.list et A) i g w [] .nil [.slice none 0 0] := ⟨⟨rfl, rfl⟩, List.nodup_nil, fun c hc => by cases hc⟩
/-! ### What calls hand out -/
end
/-! ### In regions that draw their order -/
section
variable {α β γ : Type} [GoT α] [GoT β] [GoT γ] {A : Ow α} {B : Ow β} {E : Ow γ} {P : Program} {e : Env} {w : World} {g : Gh} {x y : Operand} {i b b1 off : Nat} {t t2 : TypeId} {a0 a1 : α} {s : A.S}
theorem Gy.at_ {α β : Type} [GoT α] [GoT β] {o off : Nat} {f : α → β} {s : α → β → α} (h : Gy o f s) (ho : off = o) : Gy off f s := ho ▸ h
end
end Go.Proofs.Ytlmibfohllgmeaa
