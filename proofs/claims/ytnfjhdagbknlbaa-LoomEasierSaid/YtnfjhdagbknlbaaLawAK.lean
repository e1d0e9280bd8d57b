/- In time: what holds of orders that can be woven. -/
import Derived.Test.YtnfjhdagbknlbaaLawAD
set_option maxRecDepth 8000
namespace Go.Proofs.Ytnfjhdagbknlbaa
open Go.RowKit
open Classical

/-! ### The smallest plan, run by run -/
/-! ### Work and days -/
def sm (n : Nat) (f : Nat → Int) : Int := match n with
 | 0 => 0
 | n + 1 => sm n f + f n
theorem sm_congr {n : Nat} {f g : Nat → Int} (h : ∀ i, i < n → f i = g i) : sm n f = sm n g := by
 induction n with
 | zero => rfl
 | succ n ih => simp only [sm]; rw [ih fun i hi => h i (by omega), h n (by omega)]
theorem sm_zero {n : Nat} {f : Nat → Int} (h : ∀ i, i < n → f i = 0) : sm n f = 0 := by
 induction n with
 | zero => rfl
 | succ n ih => simp only [sm]; rw [ih fun i hi => h i (by omega), h n (by omega)]; rfl
theorem sm_out {n : Nat} {f : Nat → Int} {t : Nat} (ht : t < n) : sm n f = sm n (fun i => if i = t then 0 else f i) + f t := by
 induction n with
 | zero => omega
 | succ n ih =>
  simp only [sm]
  by_cases h : t = n
  ·subst h
   rw [if_pos rfl, sm_congr (g := f) (f := fun i => if i = t then 0 else f i) fun i hi => if_neg (by omega)]
   omega
  ·rw [if_neg (fun e => h e.symm), ih (by omega)]; omega
theorem pack (n : Nat) (w F : Nat → Int) (lo : Int) (hw : ∀ i, i < n → 1 ≤ w i) : ∀ (d : Nat) (hi : Int) (S : Nat → Prop), (hi - lo).toNat = d → lo ≤ hi → (∀ i, i < n → S i → lo ≤ F i ∧ F i + w i ≤ hi) →
  (∀ i j, i < n → j < n → S i → S j → i ≠ j → F i ≤ F j → F i + w i ≤ F j) → sm n (fun i => if S i then w i else 0) ≤ hi - lo := by
 intro d
 induction d using Nat.strongRecOn with
 | ind d ih =>
  intro hi S hd hlh hS hsep
  by_cases hne : ∃ i, S i ∧ i < n
  ·obtain ⟨t, ⟨ht, htn⟩, hm⟩ := exl_max n (fun i => S i ∧ i < n) (fun i h => h.2) F hne
   have h1 := hS t htn ht
   have hwt := hw t htn
   have h2 := ih (F t - lo).toNat (by omega) (F t) (fun i => S i ∧ i ≠ t) rfl h1.1 (fun i hin hs => ⟨(hS i hin hs.1).1, hsep i t hin htn hs.1 ht hs.2 (hm i ⟨hs.1, hin⟩)⟩) fun i j hin hjn hsi hsj => hsep i j hin hjn hsi.1 hsj.1
   rw [sm_out htn, if_pos ht]
   have h3 : sm n (fun i => if i = t then 0 else if S i then w i else 0) = sm n (fun i => @ite _ (S i ∧ i ≠ t) (Classical.propDecidable _) (w i) 0) := sm_congr fun i _ => by
    by_cases he : i = t
    ·simp [he]
    ·simp [he]
   rw [h3]; omega
  ·rw [sm_zero fun i hi => if_neg fun hs => hne ⟨i, hs, hi⟩]; omega
/-! ### Fewer looms -/
def part (m : LoomMill) (q : Nat) : LoomMill := ⟨(nums q).map fun k => wd m k, m.Change⟩
end Go.Proofs.Ytnfjhdagbknlbaa
/- LoomInTime. -/
set_option maxRecDepth 8000
namespace Go.Proofs.Ytnfjhdagbknlbaa
open Go.RowKit
open Classical

end Go.Proofs.Ytnfjhdagbknlbaa
/- LoomInTime: the plain law. -/
set_option maxRecDepth 8000
namespace Go.Proofs.Ytnfjhdagbknlbaa
open Go.RowKit
open Classical

end Go.Proofs.Ytnfjhdagbknlbaa
/- Fewer orders: which can be woven. -/
set_option maxRecDepth 8000
namespace Go.Proofs.Ytnfjhdagbknlbaa
open Go.RowKit
open Classical

def inS (n s : Nat) : List Nat := (List.range n).filter fun i => s.testBit i
theorem nums_inS {n s : Nat} (hs : s < 2 ^ n) (hn : n ≤ 62) : nums s = (inS n s).map fun (i : Nat) => (i : Int) := by
 unfold nums inS
 rw [← filter_cut (n := n) (by rw [Nat.shiftRight_eq_div_pow]; exact Nat.div_eq_of_lt hs) hn]
end Go.Proofs.Ytnfjhdagbknlbaa
/- LoomAgainst: which orders are against each other. -/
set_option maxRecDepth 8000
namespace Go.Proofs.Ytnfjhdagbknlbaa
open Go.RowKit
open Classical

end Go.Proofs.Ytnfjhdagbknlbaa
/- LoomAgainst: the plain law. -/
set_option maxRecDepth 8000
namespace Go.Proofs.Ytnfjhdagbknlbaa
open Go.RowKit
open Classical

theorem od_set {l : List LoomOrder} {i j : Nat} {v : LoomOrder} (hi : i < l.length) : od (l.set i v) (j : Int) = if j = i then v else od l (j : Int) := by
 unfold od
 rw [show ((j : Int)).toNat = j by omega]
 by_cases h : j = i
 ·subst h; simp [hi]
 ·rw [if_neg h, List.getElem?_set_ne (by omega)]
end Go.Proofs.Ytnfjhdagbknlbaa
/- LoomAgainst: the plain law, its end. -/
set_option maxRecDepth 8000
namespace Go.Proofs.Ytnfjhdagbknlbaa
open Go.RowKit
open Classical

theorem skip {α : Type} {Q : α → Prop} {c : Bool} {X Y : Option α} (hc : c = false) (h : Yes Y Q) : Yes (bif c then X else Y) Q := by rw [hc]; exact h
theorem take {α : Type} {Q : α → Prop} {c : Bool} {X Y : Option α} (hc : c = true) (h : Yes X Q) : Yes (bif c then X else Y) Q := by rw [hc]; exact h
end Go.Proofs.Ytnfjhdagbknlbaa
