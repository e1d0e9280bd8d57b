/- Plain laws: the reference's round. -/
import Derived.Test.YtpiaipiehjcflaaLawG
set_option maxRecDepth 8000
namespace Go.Proofs.Ytpiaipiehjcflaa
open Go.RowKit

def ndl (ds : List FaultDamage) (h : Nat) (b : Bool) : Bool := ds.foldl (fun b d => if d.Kind = 2 ∧ d.Hook = (h : Int) then d.Up else b) b
def thr (ds : List FaultDamage) (w : Nat) (b : Bool) : Bool := ds.foldl (fun b d => if d.Kind = 5 ∧ d.Warp = (w : Int) then false else b) b
/-- The cloth of a round by the reference. -/
def rcl (l : FaultLoom) (ds : List FaultDamage) (p w : Nat) : Bool := thr ds w (ndl ds (hk l w) (cards l ds p (hk l w)))
def rrnd (l : FaultLoom) (ds : List FaultDamage) : List Str := clothOf l.Design.Rows.length l.Harness.Warps.length (rcl l ds)
theorem foldl_take {α β : Type} (f : β → α → β) (b : β) {ds : List α} {i : Nat} (hi : i < ds.length) : (ds.take (i + 1)).foldl f b = f ((ds.take i).foldl f b) ds[i] := by
  rw [List.take_succ_eq_append_getElem hi, List.foldl_append]; rfl
theorem s26 {l : FaultLoom} (g : Good l) {ds : List FaultDamage} (hl : ds.length ≤ 100000) (hall : ∀ d ∈ ds, dmg l d = true) : f26 l ds = some (rrnd l ds) := by
  have hr1 := g.r1
  have hw1 := g.w1
  have h24 := g.h24
  refine Yes.eq ?_
  unfold f26
  refine Yes.bind (Yes.of (s60 g hl hall) (Yes.bind ?_))
  refine Yes.upto l.Design.Rows.length (by omega) (fun i r => r = clothOf i l.Harness.Warps.length (rcl l ds)) rfl (fun i r k hi hI hk' => ?_) (fun r k hI => ?_)
  · subst hI
    refine Yes.jn (Yes.cond (fun _ => Yes.bind (Yes.bind ?_)) (fun h => absurd h (by rw [tbl_len]; simp; omega)))
    refine Yes.upto l.Harness.Warps.length (by omega) (fun j s => s = line j (rcl l ds i)) rfl (fun j s k2 hj hI hk2 => ?_) (fun s k2 hI => ?_)
    · subst hI
      obtain ⟨he, hlt⟩ := hk_at g hj
      refine Yes.jn (Yes.cond (fun _ => Yes.bind ?_) (fun h => absurd h (by simp; omega)))
      refine Yes.bind (Yes.idx rfl hj (Yes.bind (Yes.idx rfl (by rw [tbl_len]; exact hi) ?_)))
      rw [tbl_at]
      refine Yes.bind (Yes.idx (n := hk l j) he (by rw [pts_len]; exact hlt) (Yes.bind ?_))
      have e0 : (pts l.Design.Hooks.toNat (cards l ds i))[hk l j]'(by rw [pts_len]; exact hlt) = cards l ds i (hk l j) := by simp [pts]
      rw [e0, he]
      refine Yes.upto ds.length (by omega) (fun q b => b = ndl (ds.take q) (hk l j) (cards l ds i (hk l j))) rfl (fun q b k3 hq hI hk3 => ?_) (fun b k3 hI => ?_)
      · subst hI
        refine Yes.jn (Yes.cond (fun _ => Yes.bind (Yes.bind (Yes.bind (Yes.idx rfl hq ?_)))) (fun h => absurd h (by simp; omega)))
        have hstep : ndl (ds.take (q + 1)) (hk l j) (cards l ds i (hk l j)) = if ds[q].Kind = 2 ∧ ds[q].Hook = ((hk l j : Nat) : Int) then ds[q].Up else ndl (ds.take q) (hk l j) (cards l ds i (hk l j)) := foldl_take _ _ hq
        refine Yes.cond (fun h2 => Yes.bind (Yes.idx rfl hq (Yes.some (Yes.cond (fun h3 => Yes.bind (Yes.idx rfl hq (Yes.some (hk3 _ ?_)))) (fun h3 => Yes.some (hk3 _ ?_)))))) (fun h2 => Yes.some (Yes.cond (fun h => nomatch h) (fun _ => Yes.some (hk3 _ ?_))))
        · rw [hstep, if_pos ⟨by simpa using h2, by simpa using h3⟩]
        · rw [hstep, if_neg (fun h => by simp [h.2] at h3)]
        · rw [hstep, if_neg (fun h => by simp [h.1] at h2)]
      · subst hI
        rw [List.take_length]
        refine Yes.jn (Yes.cond (fun h => absurd h (by simp)) (fun _ => Yes.some (Yes.bind ?_)))
        refine Yes.upto ds.length (by omega) (fun q b => b = thr (ds.take q) j (ndl ds (hk l j) (cards l ds i (hk l j)))) rfl (fun q b k4 hq hI hk4 => ?_) (fun b k4 hI => ?_)
        · subst hI
          refine Yes.jn (Yes.cond (fun _ => Yes.bind (Yes.bind (Yes.bind (Yes.idx rfl hq ?_)))) (fun h => absurd h (by simp; omega)))
          have hstep : thr (ds.take (q + 1)) j (ndl ds (hk l j) (cards l ds i (hk l j))) = if ds[q].Kind = 5 ∧ ds[q].Warp = ((j : Nat) : Int) then false else thr (ds.take q) j (ndl ds (hk l j) (cards l ds i (hk l j))) := foldl_take _ _ hq
          refine Yes.cond (fun h2 => Yes.bind (Yes.idx rfl hq (Yes.some (Yes.cond (fun h3 => Yes.some (hk4 _ ?_)) (fun h3 => Yes.some (hk4 _ ?_)))))) (fun h2 => Yes.some (Yes.cond (fun h => nomatch h) (fun _ => Yes.some (hk4 _ ?_))))
          · rw [hstep, if_pos ⟨by simpa using h2, by simpa using h3⟩]
          · rw [hstep, if_neg (fun h => by simp [h.2] at h3)]
          · rw [hstep, if_neg (fun h => by simp [h.1] at h2)]
        · subst hI
          rw [List.take_length]
          refine Yes.jn (Yes.cond (fun h => absurd h (by simp)) (fun _ => Yes.some ?_))
          have hap : ∀ b : UInt8, Yes (sadd (line j (rcl l ds i)) ⟨[b]⟩) fun r => r = ⟨(line j (rcl l ds i)).b ++ [b]⟩ := fun b => by
            unfold sadd
            rw [if_pos (by simp [line]; omega)]
            exact ⟨_, rfl, rfl⟩
          have hln : ∀ b : Bool, rcl l ds i j = b → line (j + 1) (rcl l ds i) = ⟨(line j (rcl l ds i)).b ++ [mark b]⟩ := fun b hb => by
            unfold line
            rw [List.range_succ, List.map_append]
            simp only [List.map_cons, List.map_nil, hb]
          refine Yes.cond (fun h => Yes.bind ((hap 120).mono fun r hr => Yes.some (hk2 _ ?_))) (fun h => Yes.bind ((hap 46).mono fun r hr => Yes.some (hk2 _ ?_)))
          · rw [hr, hln _ h]; rfl
          · rw [hr, hln _ h]; rfl
    · subst hI
      refine Yes.jn (Yes.cond (fun h => absurd h (by simp)) (fun _ => Yes.some (Yes.bind (Yes.apnd (by simp [clothOf]; omega) (by simp [clothOf]; omega) (Yes.some (hk' _ ?_))))))
      unfold clothOf
      rw [List.range_succ, List.map_append]; rfl
  · subst hI
    exact Yes.jn (Yes.cond (fun h => absurd h (by rw [tbl_len]; simp)) (fun _ => Yes.some (Yes.some rfl)))
/-- One damage: the same cloth. -/
theorem clothOf_congr {n m : Nat} {c c' : Nat → Nat → Bool} (h : ∀ p w, p < n → w < m → c p w = c' p w) : clothOf n m c = clothOf n m c' := by
  unfold clothOf line
  refine List.map_congr_left fun p hp => ?_
  congr 1
  refine List.map_congr_left fun w hw => ?_
  rw [h p w (List.mem_range.1 hp) (List.mem_range.1 hw)]
theorem one_same {l : FaultLoom} {d : FaultDamage} (hd : dmg l d = true) : rrnd l [d] = rnd l [d] := by
  unfold rrnd rnd
  refine clothOf_congr fun p w hp hw => ?_
  unfold rcl thr ndl cards after
  simp only [List.foldl_cons, List.foldl_nil]
  unfold actC actT actB
  rcases dmg_is hd with ⟨k, _, hh⟩ | ⟨k, hh⟩ | ⟨k | k, hpp⟩ | ⟨k, hww⟩
  · simp [k]
  · simp only [k]
    simp [act2]
    by_cases e : d.Hook = (hk l w : Int)
    · rw [if_pos e, if_pos (by omega)]
    · rw [if_neg e, if_neg (by omega)]
  · simp [k]
  · simp [k]
  · simp only [k]
    simp
    have : d.Warp = (w : Int) ↔ w = d.Warp.toNat := by omega
    simp [this, Bool.and_comm]
end Go.Proofs.Ytpiaipiehjcflaa
