/- Plain laws: the reference's round. -/
import Derived.Test.YtpiaipiehjcflaaLawF
set_option maxRecDepth 8000
namespace Go.Proofs.Ytpiaipiehjcflaa
open Go.RowKit

/-- What a damage does to the cards. -/
def actC (l : FaultLoom) (d : FaultDamage) (t : Nat → Nat → Bool) : Nat → Nat → Bool :=
  if d.Kind = 1 then act1 d.Pick.toNat d.Hook.toNat t else if d.Kind = 3 then act3 l.Design.Hooks.toNat d.Pick.toNat t
  else if d.Kind = 4 then act4 d.Pick.toNat ((d.Pick.toNat + 1) % l.Design.Rows.length) t else t
def cards (l : FaultLoom) (ds : List FaultDamage) : Nat → Nat → Bool := ds.foldl (fun t d => actC l d t) (tab l)
theorem tbl_at {n H : Nat} {t : Nat → Nat → Bool} {p : Nat} (h : p < (tbl n H t).length) : (tbl n H t)[p] = pts H (t p) := by simp [tbl]
theorem tbl_len (n H : Nat) (t : Nat → Nat → Bool) : (tbl n H t).length = n := by simp [tbl]
theorem pts_len (H : Nat) (c : Nat → Bool) : (pts H c).length = H := by simp [pts]
theorem tbl_set {n H : Nat} {t t' : Nat → Nat → Bool} {p : Nat} {c : Nat → Bool} (h1 : ∀ k, k < H → c k = t' p k) (h2 : ∀ q k, q ≠ p → t' q k = t q k) : (tbl n H t).set p (pts H c) = tbl n H t' := by
  refine List.ext_getElem (by simp [tbl]) fun q a b => ?_
  rw [List.getElem_set]
  by_cases e : p = q
  · subst e; rw [if_pos rfl, tbl_at]; exact pts_congr h1
  · rw [if_neg e, tbl_at, tbl_at]; exact pts_congr fun k _ => (h2 q k (fun h => e h.symm)).symm
theorem pts_set {H : Nat} {c : Nat → Bool} {h : Nat} {b : Bool} : (pts H c).set h b = pts H fun k => if k = h then b else c k := by
  refine List.ext_getElem (by simp [pts]) fun q a b' => ?_
  rw [List.getElem_set]
  by_cases e : h = q
  · subst e; simp [pts]
  · simp [pts, e, Ne.symm e]
theorem cards_take {l : FaultLoom} {ds : List FaultDamage} {i : Nat} (hi : i < ds.length) : cards l (ds.take (i + 1)) = actC l ds[i] (cards l (ds.take i)) := by
  unfold cards
  rw [List.take_succ_eq_append_getElem hi, List.foldl_append]
  rfl
theorem s60 {l : FaultLoom} (g : Good l) {ds : List FaultDamage} (hl : ds.length ≤ 100000) (hall : ∀ d ∈ ds, dmg l d = true) : f60 l ds = some (tbl l.Design.Rows.length l.Design.Hooks.toNat (cards l ds)) := by
  have hr1 := g.r1
  have hr0 := g.r0
  have h24 := g.h24
  refine Yes.eq ?_
  unfold f60
  refine Yes.bind (Yes.of (s85 g) (Yes.bind ?_))
  refine Yes.upto ds.length (by omega) (fun i r => r = tbl l.Design.Rows.length l.Design.Hooks.toNat (cards l (ds.take i))) rfl (fun i r k hi hI hk' => ?_) (fun r k hI => ?_)
  · subst hI
    refine Yes.jn (Yes.cond (fun _ => Yes.bind (Yes.bind (Yes.idx rfl hi ?_))) (fun h => absurd h (by simp; omega)))
    have hd := dmg_is (hall _ (List.getElem_mem hi))
    have hct := cards_take (l := l) hi
    generalize ds[i] = d at *
    generalize cards l (ds.take i) = t at *
    have fin : ∀ t', actC l d t = t' → Yes (k (tbl l.Design.Rows.length l.Design.Hooks.toNat t', w64 ((i : Int) + 1))) (fun b => Yes (some b) fun r => r = tbl l.Design.Rows.length l.Design.Hooks.toNat (cards l ds)) := fun t' e => hk' _ (by rw [hct, e])
    refine Yes.cond (fun k1 => ?_) (fun k1 => Yes.cond (fun k3 => ?_) (fun k3 => Yes.cond (fun k4 => ?_) (fun k4 => Yes.some (fin t ?_))))
    · have k1 : d.Kind = 1 := by simpa using k1
      obtain ⟨⟨p0, p1⟩, h0, h1⟩ : (0 ≤ d.Pick ∧ d.Pick < l.Design.Rows.length) ∧ 0 ≤ d.Hook ∧ d.Hook < l.Design.Hooks := by
        rcases hd with ⟨_, h⟩ | ⟨k, _⟩ | ⟨k | k, _⟩ | ⟨k, _⟩ <;> first | exact h | (rw [k1] at k; cases k)
      refine Yes.bind (Yes.idx (n := d.Pick.toNat) (by omega) (by rw [tbl_len]; omega) (Yes.bind (Yes.idx (n := d.Pick.toNat) (by omega) (by rw [tbl_len]; omega) ?_)))
      rw [tbl_at]
      refine Yes.bind (Yes.idx (n := d.Hook.toNat) (by omega) (by rw [pts_len]; omega) (Yes.bind (Yes.idx (n := d.Hook.toNat) (by omega) (by rw [pts_len]; omega) (Yes.some ?_))))
      rw [pts_set, tbl_set (t' := act1 d.Pick.toNat d.Hook.toNat t) (fun k hk => ?_) (fun q k hq => by simp [act1, hq])]
      · exact fin _ (by unfold actC; rw [if_pos k1])
      · by_cases e : k = d.Hook.toNat
        · subst e; simp [act1, pts]
        · simp [act1, e]
    · have k3 : d.Kind = 3 := by simpa using k3
      obtain ⟨p0, p1⟩ : 0 ≤ d.Pick ∧ d.Pick < l.Design.Rows.length := by
        rcases hd with ⟨k, _⟩ | ⟨k, _⟩ | ⟨k | k, h⟩ | ⟨k, _⟩ <;> first | exact h | (rw [k3] at k; cases k)
      refine Yes.bind (Yes.idx (n := d.Pick.toNat) (by omega) (by rw [tbl_len]; omega) ?_)
      rw [tbl_at]
      refine Yes.bind (Yes.of (s86 (by omega) _) (Yes.some ?_))
      rw [tbl_set (t' := act3 l.Design.Hooks.toNat d.Pick.toNat t) (fun k hk => by simp [act3]) (fun q k hq => by simp [act3, hq])]
      exact fin _ (by unfold actC; rw [k3]; rfl)
    · have k4 : d.Kind = 4 := by simpa using k4
      obtain ⟨p0, p1⟩ : 0 ≤ d.Pick ∧ d.Pick < l.Design.Rows.length := by
        rcases hd with ⟨k, _⟩ | ⟨k, _⟩ | ⟨k | k, h⟩ | ⟨k, _⟩ <;> first | exact h | (rw [k4] at k; cases k)
      have hrem : rem64 (w64 (d.Pick + 1)) ((tbl l.Design.Rows.length l.Design.Hooks.toNat t).length : Int) = some (((d.Pick.toNat + 1) % l.Design.Rows.length : Nat) : Int) := by
        rw [tbl_len, w64_id (by omega) (by omega)]
        unfold rem64
        rw [if_neg (by omega), show d.Pick + 1 = ((d.Pick.toNat + 1 : Nat) : Int) by omega, Int.tmod_eq_emod_of_nonneg (by omega)]
        rfl
      have hq : (d.Pick.toNat + 1) % l.Design.Rows.length < l.Design.Rows.length := Nat.mod_lt _ hr0
      refine Yes.bind (Yes.of hrem (Yes.bind (Yes.idx (n := d.Pick.toNat) (by omega) (by rw [tbl_len]; omega) (Yes.bind (Yes.idx rfl (by rw [tbl_len]; exact hq) (Yes.bind (Yes.idx (n := d.Pick.toNat) (by omega) (by rw [tbl_len]; omega) (Yes.some ?_))))))))
      rw [tbl_at, tbl_at, Int.toNat_natCast]
      rw [tbl_set (t' := fun q k => if q = d.Pick.toNat then t ((d.Pick.toNat + 1) % l.Design.Rows.length) k else t q k) (fun k hk => by simp) (fun q k hq => by simp [hq])]
      rw [tbl_set (t' := act4 d.Pick.toNat ((d.Pick.toNat + 1) % l.Design.Rows.length) t) (fun k hk => by simp [act4]) (fun q k hq => by simp [act4, hq])]
      exact fin _ (by unfold actC; rw [k4]; rfl)
    · have k1 : d.Kind ≠ 1 := by simpa using k1
      have k3 : d.Kind ≠ 3 := by simpa using k3
      have k4 : d.Kind ≠ 4 := by simpa using k4
      unfold actC; rw [if_neg k1, if_neg k3, if_neg k4]
  · subst hI
    rw [List.take_length]
    exact Yes.jn (Yes.cond (fun h => absurd h (by simp)) (fun _ => Yes.some (Yes.some rfl)))
end Go.Proofs.Ytpiaipiehjcflaa
