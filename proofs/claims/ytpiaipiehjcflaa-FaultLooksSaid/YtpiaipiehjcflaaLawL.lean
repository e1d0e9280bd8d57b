/- Plain laws: how many picks tell damages apart; groups. -/
import Derived.Test.YtpiaipiehjcflaaLawJ
set_option maxRecDepth 8000
namespace Go.Proofs.Ytpiaipiehjcflaa
open Go.RowKit

/-- The pick behind the first place. -/
def fp (ps : List (Int × Int)) : Int := match ps with
  | [] => 0
  | (p, _) :: _ => p + 1
/-! ### Apart -/
theorem s68 {l : FaultLoom} (g : Good l) {ds : List FaultDamage} (hl : ds.length ≤ 1000) (hd : ∀ d ∈ ds, dmg l d = true) : f68 ⟨l⟩ ds = some (ds.map fun d => rnd l [d]) := by
  refine Yes.eq ?_
  unfold f68
  refine Yes.bind (Yes.upto ds.length (by omega) (fun i r => r = (ds.take i).map fun d => rnd l [d]) rfl (fun i r k hi hI hk => ?_) (fun r k hI => ?_))
  · subst hI
    refine Yes.cond (fun _ => Yes.bind (Yes.bind (Yes.idx rfl hi (Yes.bind (Yes.of (s55_one g (hd _ (List.getElem_mem hi))) (Yes.bind (Yes.apnd (by simp; omega) (by simp; omega) (Yes.some (hk _ ?_))))))))) (fun h => absurd h (by simp; omega))
    rw [List.take_succ_eq_append_getElem hi, List.map_append]; rfl
  · subst hI
    rw [List.take_length]
    exact Yes.cond (fun h => absurd h (by simp)) (fun _ => Yes.some (Yes.some rfl))
/-- The greatest of some numbers, or 0. -/
structure Top (F : Nat → Nat → Int) (S : Nat → Nat → Prop) (r : Int) : Prop where
  le : ∀ i k, S i k → F i k ≤ r
  pos : 0 ≤ r
  at_ : r = 0 ∨ ∃ i k, S i k ∧ F i k = r
theorem Top.none {F : Nat → Nat → Int} {S : Nat → Nat → Prop} (h : ∀ i k, ¬ S i k) : Top F S 0 := ⟨fun i k hs => absurd hs (h i k), Int.le_refl _, .inl rfl⟩
theorem Top.same {F : Nat → Nat → Int} {S S' : Nat → Nat → Prop} {r : Int} (h : Top F S r) (e : ∀ i k, S' i k ↔ S i k) : Top F S' r :=
  ⟨fun i k hs => h.le i k ((e i k).1 hs), h.pos, h.at_.imp id fun ⟨i, k, hs, hf⟩ => ⟨i, k, (e i k).2 hs, hf⟩⟩
theorem Top.add {F : Nat → Nat → Int} {S S' : Nat → Nat → Prop} {r : Int} {a b : Nat} (h : Top F S r) (h0 : 0 ≤ F a b) (e : ∀ i k, S' i k ↔ S i k ∨ (i = a ∧ k = b)) : Top F S' (max64 r (F a b)) := by
  unfold max64
  split
  · rename_i hgt
    refine ⟨fun i k hs => ?_, by omega, .inr ⟨a, b, (e a b).2 (.inr ⟨rfl, rfl⟩), rfl⟩⟩
    rcases (e i k).1 hs with hs | ⟨rfl, rfl⟩
    · have := h.le i k hs; omega
    · omega
  · rename_i hle
    refine ⟨fun i k hs => ?_, h.pos, h.at_.imp id fun ⟨i, k, hs, hf⟩ => ⟨i, k, (e i k).2 (.inl hs), hf⟩⟩
    rcases (e i k).1 hs with hs | ⟨rfl, rfl⟩
    · exact h.le i k hs
    · omega
/-- How many picks tell damages i and k apart. -/
def dd (ds : List FaultDamage) (i : Nat) : FaultDamage := (ds[i]?).getD ⟨0, 0, 0, 0, false⟩
def ap (l : FaultLoom) (ds : List FaultDamage) (i k : Nat) : Int := fp (apl l [dd ds i] [dd ds k])
end Go.Proofs.Ytpiaipiehjcflaa
