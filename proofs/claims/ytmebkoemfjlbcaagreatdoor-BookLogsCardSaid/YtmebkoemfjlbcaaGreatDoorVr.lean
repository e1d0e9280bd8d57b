/- Appends of own rows to an own slice of slices. No program is named here. -/
import Derived.Test.YtmebkoemfjlbcaaGreatDoorCh
namespace Go.Proofs.YtmebkoemfjlbcaaGreatDoor
open Go.RowKit
end Go.Proofs.YtmebkoemfjlbcaaGreatDoor
/- A region that draws its order, whose changing operations come in one order; some loads come before one of them, the operation M. No program is named here. -/
namespace Go.Proofs.YtmebkoemfjlbcaaGreatDoor
open Go.RowKit
end Go.Proofs.YtmebkoemfjlbcaaGreatDoor
/- A part cut out of an own slice, in place; a slice that an own variable shares. No program is named here. -/
namespace Go.Proofs.YtmebkoemfjlbcaaGreatDoor
open Go.RowKit
section
variable {α : Type} [GoT α] {m : Nat → Nat} {w : World}
theorem Tn.take : ∀ {xs : List α} {cs : List Value} (n : Nat), Tn m w xs cs → Tn m w (xs.take n) (cs.take (n * GoT.k α))
 | [], _, n, h => by rw [show _ = [] from h]; simp; exact rfl
 | _ :: _, _, 0, _ => by simp; exact rfl
 | _ :: _, _, n + 1, ⟨c1, c2, he, h1, h2⟩ => by
  subst he
  have hl := GoT.len h1
  have e1 : (n + 1) * GoT.k α = c1.length + n * GoT.k α := by rw [Nat.add_mul, hl]; omega
  rw [List.take_succ_cons, e1, List.take_append, List.take_of_length_le (Nat.le_add_right _ _), Nat.add_sub_cancel_left]
  exact ⟨_, _, rfl, h1, h2.take n⟩
theorem Tn.drop : ∀ {xs : List α} {cs : List Value} (n : Nat), Tn m w xs cs → Tn m w (xs.drop n) (cs.drop (n * GoT.k α))
 | [], _, n, h => by rw [show _ = [] from h]; simp; exact rfl
 | _ :: _, _, 0, h => by simpa using h
 | _ :: _, _, n + 1, ⟨c1, c2, he, h1, h2⟩ => by
  subst he
  have hl := GoT.len h1
  have e1 : (n + 1) * GoT.k α = c1.length + n * GoT.k α := by rw [Nat.add_mul, hl]; omega
  rw [List.drop_succ_cons, e1, List.drop_append, List.drop_of_length_le (Nat.le_add_right _ _), List.nil_append, Nat.add_sub_cancel_left]
  exact h2.drop n
end
section
variable {P : Program} {e : Env} {w : World} {g : Gh} {K : Value → World → Prop} {x y z : Operand}
theorem OM.hdr {α : Type} [GoT α] {i : Nat} {t : TypeId} {xs : List α} {v : Value} (h : OM i g w t xs v) : ∃ a c, v = .slice a xs.length c ∧ xs.length ≤ c := by
 rcases h with ⟨rfl, rfl⟩ | ⟨b, c, cs, rfl, hc, _⟩
 ·exact ⟨none, 0, rfl, Nat.le_refl _⟩
 ·exact ⟨_, c, rfl, hc⟩
theorem Mp {α : Type} [GoT α] {t et : TypeId} {v : Value} {xs r : List α} {lo hi : Option Operand} {l h : Int} (ht : P.underlying t = some (.slice et)) (hs : ∀ w, (sizeOf et).run P w = .ok (GoT.k α) w)
  (hx : ev e x = v) (hv : ∃ a c, v = .slice a xs.length c ∧ xs.length ≤ c) (hlo : match lo with | some o => ev e o = .int .i64 l | none => l = 0) (hhi : match hi with | some o => ev e o = .int .i64 h | none => h = xs.length) (hc : cut xs l h = some r) :
  Pur P (.slice t x lo hi none) e (Kf v l.toNat h.toNat (GoT.k α)) := fun _ _ _ _ _ _ => by
 obtain ⟨a, c, rfl, hxc⟩ := hv
 unfold cut at hc
 split at hc
 case isFalse => cases hc
 rename_i hb
 obtain ⟨h0, hlh, hhl⟩ := hb
 obtain ⟨ln, rfl⟩ := Int.eq_ofNat_of_zero_le h0
 obtain ⟨hn, rfl⟩ := Int.eq_ofNat_of_zero_le (Int.le_trans h0 hlh)
 have hlh' : ln ≤ hn := by omega
 have hhl' : hn ≤ xs.length := by omega
 have hb3 : hn ≤ c := by omega
 simp only [Int.toNat_natCast]
 cases lo with
 | none =>
  simp only at hlo
  have : ln = 0 := by omega
  subst this
  cases hi with
  | none =>
   simp only at hhi
   have : hn = xs.length := by omega
   subst this
   simp [execOp, hx, Instr.sliceAt, Instr.slice, run_underlying ht, Instr.sliceBounds, hs, Kf]
  | some oh =>
   simp only at hhi
   simp [execOp, hx, hhi, Instr.sliceAt, Instr.slice, run_underlying ht, Instr.sliceBounds, Instr.sliceBound, asIntOf, hs, hb3, Kf]
 | some ol =>
  simp only at hlo
  cases hi with
  | none =>
   simp only at hhi
   have : hn = xs.length := by omega
   subst this
   simp [execOp, hx, hlo, Instr.sliceAt, Instr.slice, run_underlying ht, Instr.sliceBounds, Instr.sliceBound, asIntOf, hs, hlh', Kf]
  | some oh =>
   simp only at hhi
   simp [execOp, hx, hlo, hhi, Instr.sliceAt, Instr.slice, run_underlying ht, Instr.sliceBounds, Instr.sliceBound, asIntOf, hs, hb3, hlh', Kf]
end
end Go.Proofs.YtmebkoemfjlbcaaGreatDoor
/- A region that draws its order, of which some changing operations come in several orders: a tree of orders. No program is named here. -/
namespace Go.Proofs.YtmebkoemfjlbcaaGreatDoor
open Go.RowKit
end Go.Proofs.YtmebkoemfjlbcaaGreatDoor
/- Variables that a draw makes and stores to, several of them. No program is named here. -/
namespace Go.Proofs.YtmebkoemfjlbcaaGreatDoor
open Go.RowKit
end Go.Proofs.YtmebkoemfjlbcaaGreatDoor
