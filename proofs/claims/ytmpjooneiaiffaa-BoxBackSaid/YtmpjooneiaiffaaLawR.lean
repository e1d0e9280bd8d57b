/- Plain laws: the picks of bytes can be thrown. -/
import Derived.Test.YtmpjooneiaiffaaLawO
set_option maxRecDepth 8000
namespace Go.Proofs.Ytmpjooneiaiffaa
open Go.RowKit
open Classical

theorem bx_step {v : Vector (Vector Int 4) 2} {m : BoxLoom} (hv : BxV v m) (hm : LOk m) {p : BoxPick} (hp : okP m.Boxes p = true) {L R : Nat} (hL : p.Left = L) (hR : p.Right = R) (hL4 : L < 4) (hR4 : R < 4)
  (hc : ((v[0][L] == (0 : Int)) == (v[1][R] == (0 : Int))) = false) : ∃ n i q, oneL m p = some (n, i, q) ∧ BxV (vmod (vmod v ((0 : Int)) (fun b => vset b (L : Int) v[1][R])) ((1 : Int)) (fun b => vset b (R : Int) v[0][L])) n := by
 have hr : Rel ⟨v, ⟨m.At.getD 0 0, m.At.getD 1 0⟩⟩ m := ⟨hv, rfl⟩
 have hp' := okP_iff.1 hp
 have b0 := hm.box (i := 0) (by omega)
 have b1 := hm.box (i := 1) (by omega)
 have a0 := hm.at (i := 0) (by omega)
 have a1 := hm.at (i := 1) (by omega)
 obtain ⟨x, hx, hq⟩ := s97 hr hm hp
 have h2 : Yes (f97 ⟨v, ⟨m.At.getD 0 0, m.At.getD 1 0⟩⟩ p) (fun x => x.1.boxes = vmod (vmod v ((0 : Int)) (fun b => vset b (L : Int) v[1][R])) ((1 : Int)) (fun b => vset b (R : Int) v[0][L]) ∧ x.1.at_ = p) := by
  unfold f97
  rw [hL, hR]
  refine qbind _ (vidx v (i := 0) (by omega)) (qbind _ (vidx _ hL4) (qbind _ (vidx v (i := 1) (by omega)) (qbind _ (vidx _ hR4) (Yes.jn (qskip hc ?_)))))
  exact qbind _ (s106 (by show 0 ≤ m.At.getD 0 0 ∧ m.At.getD 0 0 ≤ 1000; omega) (by omega)) (qbind _ (s106 (by show 0 ≤ m.At.getD 1 0 ∧ m.At.getD 1 0 ≤ 1000; omega) (by omega)) (qbind _ (vidx v (i := 0) (by omega)) (qbind _ (vidx _ hL4) (qbind _ (vidx _ (i := 1) (by omega)) (qbind _ (vidx _ hR4) (Yes.some ⟨rfl, rfl⟩))))))
 obtain ⟨y, hy, hb, hat⟩ := h2
 have hxy : x = y := Option.some.inj (hx.symm.trans hy)
 subst hxy
 cases ho : oneL m p with
 | none =>
  exfalso
  rw [oneL_none hm.dst, hL, hR] at ho
  have e0 := hv 0 L (by omega) hL4
  have e1 := hv 1 R (by omega) hR4
  have h0 : inX m.Shuttles (0 : Int) (L : Int) + (1 : Int) = v[0][L] := e0.symm
  have h1 : inX m.Shuttles (1 : Int) (R : Int) + (1 : Int) = v[1][R] := e1.symm
  rw [h0, h1] at ho
  have : (v[0][L] == (0 : Int)) = (v[1][R] == (0 : Int)) := by
   rw [Bool.eq_iff_iff, beq_iff_eq, beq_iff_eq]; exact ho
  rw [this] at hc
  simp at hc
 | some z =>
  obtain ⟨n, i, q⟩ := z
  rw [ho] at hq
  exact ⟨n, i, q, rfl, fun s b hs hb' => by rw [← hq.1.bx s b hs hb']; simp only [hb]⟩
theorem quo_nn8 {a : Int} (ha : 0 ≤ a) (ha2 : a ≤ 255) : quo64 a 8 = some (a / 8) := quo_nn ha (by omega) (by omega)
theorem s39 {l : BoxLoom} (hl : LOk l) (x : Race) (hP : x.Picks.length ≤ 9223372036854775807) : Yes (f39 x l 12) (fun r => ∃ n, thr l r.1 = some n ∧ (∀ p ∈ r.1, okP l.Boxes p = true) ∧ BxV r.2.2.1 n ∧ r.1.length ≤ 12) := by
 have byte : ∀ u : UInt8, (0 : Int) ≤ (u.toNat : Int) ∧ (u.toNat : Int) ≤ 255 := fun u => by have := u.toNat_lt; omega
 have b0 := hl.box (i := 0) (by omega)
 have b1 := hl.box (i := 1) (by omega)
 have hb0 : idx l.Boxes (0 : Int) = some (l.Boxes.getD 0 0) := box_at hl.len (i := 0) (by omega)
 have hb1 : idx l.Boxes (1 : Int) = some (l.Boxes.getD 1 0) := box_at hl.len (i := 1) (by omega)
 unfold f39
 refine Yes.bind ((s45 hl).mono fun v0 hv0 => qbind _ (at_at hl.len (i := 0) (by omega)) (qbind _ (at_at hl.len (i := 1) (by omega)) (Yes.bind ?_)))
 refine Yes.lp (fun s => ∃ k : Nat, s.2.2.2.2.2 = (k : Int) ∧ k ≤ x.Picks.length ∧ s.2.1.length = s.1.length ∧ s.1.length ≤ 12 ∧ (∀ p ∈ s.1, okP l.Boxes p = true) ∧ ∃ m, thr l s.1 = some m ∧ BxV s.2.2.1 m)
  (fun s => x.Picks.length + 1 - s.2.2.2.2.2.toNat) ⟨0, rfl, by omega, rfl, by simp, by simp, l, rfl, hv0⟩ (by simp; omega) ?_
 rintro ⟨ps, sh, v, o7, at', u⟩ kk ⟨k, rfl, hk, c1, c2, c3, m, c4, c5⟩ hk'
 simp only at c1 c2 c3 c4 c5
 obtain ⟨m1, m2, _⟩ := thr_ok hl c3 c4
 have hend : ∀ b : Bool, b = false → Yes (some (ps, sh, v, o7)) fun r => Yes (some (r.1, r.2.1, r.2.2.1, r.2.2.2)) fun r => ∃ n, thr l r.1 = some n ∧ (∀ p ∈ r.1, okP l.Boxes p = true) ∧ BxV r.2.2.1 n ∧ r.1.length ≤ 12 := fun _ _ => Yes.some (Yes.some ⟨m, c4, c3, c5, c2⟩)
 refine Yes.jn (Yes.bind (Yes.cond (fun hc => Yes.some (Yes.cond (fun hc2 => ?_) (fun hc2 => hend _ hc2))) (fun hc => Yes.some (hend false rfl))))
 have hkl : k < x.Picks.length := by have : (k : Int) < (x.Picks.length : Int) := of_decide_eq_true hc; omega
 have hlt : ps.length < 12 := by have : (ps.length : Int) < 12 := of_decide_eq_true hc2; omega
 have hby := byte x.Picks[k]
 have next : ∀ ps' sh' v' o' a', sh'.length = ps'.length → ps'.length ≤ 12 → (∀ p ∈ ps', okP l.Boxes p = true) → (∃ m, thr l ps' = some m ∧ BxV v' m) → Yes (kk (ps', sh', v', o', a', w64 ((k : Int) + 1))) fun r => Yes (some (r.1, r.2.1, r.2.2.1, r.2.2.2)) fun r => ∃ n, thr l r.1 = some n ∧ (∀ p ∈ r.1, okP l.Boxes p = true) ∧ BxV r.2.2.1 n ∧ r.1.length ≤ 12 := fun ps' sh' v' o' a' d1 d2 d3 d4 => by
  rw [w64_id (by omega) (by omega)]
  refine hk' _ ⟨k + 1, by simp, by omega, d1, d2, d3, d4⟩ ?_
  show x.Picks.length + 1 - ((k : Int) + 1).toNat < x.Picks.length + 1 - ((k : Int)).toNat
  omega
 obtain ⟨L, hL, hL2⟩ : ∃ L : Nat, (x.Picks[k].toNat : Int) % l.Boxes.getD 0 0 = L ∧ (L : Int) < l.Boxes.getD 0 0 := by
  have e1 := Int.emod_nonneg (x.Picks[k].toNat : Int) (show l.Boxes.getD 0 0 ≠ 0 by omega)
  have e2 := Int.emod_lt_of_pos (x.Picks[k].toNat : Int) (show 0 < l.Boxes.getD 0 0 by omega)
  exact ⟨((x.Picks[k].toNat : Int) % l.Boxes.getD 0 0).toNat, by omega, by omega⟩
 obtain ⟨R, hR, hR2⟩ : ∃ R : Nat, (x.Picks[k].toNat : Int) / 8 % l.Boxes.getD 1 0 = R ∧ (R : Int) < l.Boxes.getD 1 0 := by
  have e1 := Int.emod_nonneg ((x.Picks[k].toNat : Int) / 8) (show l.Boxes.getD 1 0 ≠ 0 by omega)
  have e2 := Int.emod_lt_of_pos ((x.Picks[k].toNat : Int) / 8) (show 0 < l.Boxes.getD 1 0 by omega)
  exact ⟨((x.Picks[k].toNat : Int) / 8 % l.Boxes.getD 1 0).toNat, by omega, by omega⟩
 have hL4 : L < 4 := by omega
 have hR4 : R < 4 := by omega
 refine Yes.jn (Yes.bind (qbind _ (qidx hkl) (qbind _ hb0 (qbind _ (rem_nn hby.1 (by omega)) (qbind _ (qidx hkl) (qbind _ (quo_nn8 hby.1 hby.2) (qbind _ hb1 (qbind _ (rem_nn (by omega) (by omega)) ?_))))))))
 rw [hL, hR]
 have hpk : okP l.Boxes ⟨(L : Int), (R : Int)⟩ = true := okP_iff.2 ⟨⟨by show (0 : Int) ≤ (L : Int); omega, by show (L : Int) ≤ _; omega⟩, by show (0 : Int) ≤ (R : Int); omega, by show (R : Int) ≤ _; omega⟩
 refine qbind (⟨(L : Int), (R : Int)⟩ : BoxPick) rfl (qbind _ (vidx v (i := 0) (by omega)) (qbind _ (vidx _ hL4) (qbind _ (vidx v (i := 1) (by omega)) (qbind _ (vidx _ hR4) (Yes.jn (Yes.cond (fun hc3 => Yes.some ?_) (fun hc3 => ?_)))))))
 ·exact next _ _ _ _ _ c1 (by omega) c3 ⟨m, c4, c5⟩
 ·obtain ⟨n, i, q, ho, hbx⟩ := bx_step (p := ⟨(L : Int), (R : Int)⟩) c5 m1 (by rw [m2]; exact hpk) rfl rfl hL4 hR4 hc3
  refine qbind _ (vidx v (i := 0) (by omega)) (qbind _ (vidx _ hL4) (qbind _ (vidx _ (i := 1) (by omega)) (qbind _ (vidx _ hR4) (Yes.bind (Yes.apnd (by simp; omega) (by simp; omega) (Yes.bind (Yes.apnd (by simp; omega) (by simp; omega) (Yes.some ?_))))))))
  refine next _ _ _ _ _ (by simp [c1]) (by simp; omega) (fun p hp => ?_) ⟨n, ?_, hbx⟩
  ·rcases List.mem_append.1 hp with hp | hp
   ·exact c3 p hp
   ·rw [List.mem_singleton.1 hp]; exact hpk
  ·rw [thr_append, c4, Option.bind_some, thr_one, ho]; rfl
end Go.Proofs.Ytmpjooneiaiffaa
/- Plain laws: picks thrown the other way round bring all back. -/
set_option maxRecDepth 8000
namespace Go.Proofs.Ytmpjooneiaiffaa
open Go.RowKit
open Classical

theorem inX_wh {a b : BoxLoom} (ha : Dst a.Shuttles) (hb : Dst b.Shuttles) (h : Wh a.Shuttles b.Shuttles) (s c : Int) : inX a.Shuttles s c = inX b.Shuttles s c := inX_eq ha hb fun i => h s c i
theorem oneL_wh {a b a' : BoxLoom} (ha : LOk a) (hb : LOk b) (h : Wh a.Shuttles b.Shuttles) {p : BoxPick} {i : Nat} {m : Int} (ho : oneL a p = some (a', i, m)) : ∃ b' m', oneL b p = some (b', i, m') ∧ Wh a'.Shuttles b'.Shuttles := by
 cases hq : oneL b p with
 | none =>
  rw [oneL_none hb.dst, ← inX_wh ha.dst hb.dst h, ← inX_wh ha.dst hb.dst h, ← oneL_none ha.dst] at hq
  rw [hq] at ho; cases ho
 | some y =>
  obtain ⟨b', j, m'⟩ := y
  obtain ⟨_, _, _, h4⟩ := oneL_some ha.dst ho
  obtain ⟨_, _, _, k4⟩ := oneL_some hb.dst hq
  have key : ∀ {s c s' c'}, Goes a.Shuttles a'.Shuttles i s c s' c' → Goes b.Shuttles b'.Shuttles j s c s' c' → i = j ∧ Wh a'.Shuttles b'.Shuttles := fun g1 g2 => by
   have hij : i = j := hb.dst.one ((h _ _ _).1 g1.at0) g2.at0
   subst hij
   refine ⟨rfl, fun t d k => ?_⟩
   rw [g1.to, g2.to, h]
  have bad : ∀ {s c s' c' j2}, Goes a.Shuttles a'.Shuttles i s c s' c' → Goes b.Shuttles b'.Shuttles j2 s' c' s c → False := fun g1 g2 => g2.free ⟨_, (h _ _ _).1 g1.at0⟩
  rcases h4 with ⟨_, g1⟩ | ⟨_, g1⟩ <;> rcases k4 with ⟨_, g2⟩ | ⟨_, g2⟩
  ·obtain ⟨rfl, hw⟩ := key g1 g2; exact ⟨b', m', rfl, hw⟩
  ·exact (bad g1 g2).elim
  ·exact (bad g1 g2).elim
  ·obtain ⟨rfl, hw⟩ := key g1 g2; exact ⟨b', m', rfl, hw⟩
theorem oneL_back {l a : BoxLoom} (hl : LOk l) {p : BoxPick} (hp : okP l.Boxes p = true) {i : Nat} {m : Int} (ho : oneL l p = some (a, i, m)) : ∃ b m', oneL a p = some (b, i, m') ∧ Wh b.Shuttles l.Shuttles := by
 have ha := (oneL_ok hl hp ho).1
 obtain ⟨_, _, _, h4⟩ := oneL_some hl.dst ho
 have fin : ∀ {s c s' c' : Int}, ¬ (s = s' ∧ c = c') → Goes l.Shuttles a.Shuttles i s c s' c' → ∀ {b : BoxLoom} {j : Nat}, Goes a.Shuttles b.Shuttles j s' c' s c → i = j ∧ Wh b.Shuttles l.Shuttles := fun {s c s' c'} hne g {b j} g2 => by
  have hij : i = j := ha.dst.one g.there g2.at0
  subst hij
  refine ⟨rfl, fun t d k => ?_⟩
  rw [g2.to, g.was]
 cases hq : oneL a p with
 | none =>
  rw [oneL_none ha.dst] at hq
  rcases h4 with ⟨_, g⟩ | ⟨_, g⟩
  ·rw [inX_none (g.left hl.dst (by simp)), inX_some ha.dst g.there] at hq; omega
  ·rw [inX_none (g.left hl.dst (by simp)), inX_some ha.dst g.there] at hq; omega
 | some y =>
  obtain ⟨b, j, m'⟩ := y
  obtain ⟨_, _, _, k4⟩ := oneL_some ha.dst hq
  rcases h4 with ⟨_, g⟩ | ⟨_, g⟩ <;> rcases k4 with ⟨_, g2⟩ | ⟨_, g2⟩
  ·exact absurd ⟨_, g2.at0⟩ (g.left hl.dst (by simp))
  ·obtain ⟨rfl, hw⟩ := fin (by simp) g g2; exact ⟨b, m', rfl, hw⟩
  ·obtain ⟨rfl, hw⟩ := fin (by simp) g g2; exact ⟨b, m', rfl, hw⟩
  ·exact absurd ⟨_, g2.at0⟩ (g.left hl.dst (by simp))
theorem thl_length {ps : List BoxPick} : ∀ {l n : BoxLoom}, thr l ps = some n → (thl l ps).length = ps.length := by
 induction ps with
 | nil => intro l n _; rw [thl]; rfl
 | cons p ps ih =>
  intro l n h
  rw [thr_cons] at h
  rw [thl]
  cases ho : oneL l p with
  | none => rw [ho] at h; cases h
  | some x => rw [ho] at h; exact congrArg Nat.succ (ih h)
theorem thr_rev {ps : List BoxPick} : ∀ {l n : BoxLoom}, LOk l → (∀ p ∈ ps, okP l.Boxes p = true) → thr l ps = some n → ∃ b, thr n ps.reverse = some b ∧ Wh b.Shuttles l.Shuttles ∧ thl n ps.reverse = (thl l ps).reverse := by
 induction ps with
 | nil => intro l n _ _ h; cases h; exact ⟨l, rfl, Wh.rfl' _, rfl⟩
 | cons p ps ih =>
  intro l n hl hp h
  rw [thr_cons] at h
  cases ho : oneL l p with
  | none => rw [ho] at h; cases h
  | some x =>
   obtain ⟨a, i, m⟩ := x
   rw [ho] at h
   obtain ⟨h1, h2, _⟩ := oneL_ok hl (hp p (by simp)) ho
   have hpa : ∀ q ∈ ps, okP a.Boxes q = true := fun q hq => by rw [h2]; exact hp q (by simp [hq])
   obtain ⟨n1, n2, _⟩ := thr_ok h1 hpa h
   obtain ⟨b, e1, e2, e3⟩ := ih h1 hpa h
   have hpr : ∀ q ∈ ps.reverse, okP n.Boxes q = true := fun q hq => by rw [n2]; exact hpa q (List.mem_reverse.1 hq)
   obtain ⟨b1, b2, _⟩ := thr_ok n1 hpr e1
   obtain ⟨c, m', hc, hcw⟩ := oneL_back hl (hp p (by simp)) ho
   obtain ⟨d, m2, hd, hdw⟩ := oneL_wh h1 b1 e2.symm hc
   refine ⟨d, ?_, fun s t k => (hdw s t k).symm.trans (hcw s t k), ?_⟩
   ·rw [List.reverse_cons, thr_append, e1, Option.bind_some, thr_one, hd]; rfl
   ·rw [List.reverse_cons, thl_append _ _ e1, e3, thl, hd, thl, ho]
    show _ ++ [i] = (i :: thl a ps).reverse
    rw [List.reverse_cons]
end Go.Proofs.Ytmpjooneiaiffaa
/- BoxBack. -/
set_option maxRecDepth 8000
namespace Go.Proofs.Ytmpjooneiaiffaa
open Go.RowKit
open Classical

theorem colr_smb {n l : BoxLoom} (h : Smb n l) {i : Nat} (hi : i < l.Shuttles.length) : colr n i = colr l i := by
 have hi' : i < n.Shuttles.length := by rw [h.len]; exact hi
 rw [colr_at hi, colr_at hi', (h.sm i hi' hi).1]
theorem itr_smb {l : BoxLoom} {ps : List BoxPick} (hl : LOk l) (hp : ∀ p ∈ ps, okP l.Boxes p = true) : ∀ {n : Nat} {m : BoxLoom}, itr l ps n = some m → Smb m l
 | 0, m, h => by cases h; exact ⟨rfl, rfl, fun _ _ _ => ⟨rfl, rfl⟩⟩
 | n + 1, m, h => by
  rw [itr] at h
  cases ho : itr l ps n with
  | none => rw [ho] at h; cases h
  | some a =>
   rw [ho] at h
   obtain ⟨h1, h2, _⟩ := itr_ok hl hp ho
   exact (thr_smb h1 (fun p h => by rw [h2]; exact hp p h) h).trans (itr_smb hl hp ho)
theorem s10 {A B C : Prop} (x : Race) (hx : A ∧ B ∧ x.Picks.length ≤ 9223372036854775807 ∧ C) : f10 x = some true := by
 refine Yes.eq ?_
 unfold f10
 have known : Yes (f14.bind fun y => some y) (fun r => Yes (some r) fun r => r = true) := ⟨true, rfl, true, rfl, rfl⟩
 refine Yes.bind ((s38 x).mono fun l hl => Yes.bind ((s39 hl x hx.2.2.1).mono fun z hz => ?_))
 obtain ⟨n, hn, hp, hbx, h12⟩ := hz
 obtain ⟨ps, z2, z3, z4⟩ := z
 simp only at hn hp hbx h12
 obtain ⟨k1, k2, k3⟩ := thr_ok hl hp hn
 have smb := thr_smb hl hp hn
 have hpr : ∀ q ∈ ps.reverse, okP n.Boxes q = true := fun q hq => by rw [k2]; exact hp q (List.mem_reverse.1 hq)
 obtain ⟨b, e1, e2, e3⟩ := thr_rev hl hp hn
 obtain ⟨b1, b2, b3⟩ := thr_ok k1 hpr e1
 have smb2 := (thr_smb k1 hpr e1).trans smb
 have htl := thl_length hn
 have hT := thl_lt hl hp
 have hcol : (thl n ps.reverse).map (colr n) = ((thl l ps).map (colr l)).reverse := by
  rw [e3, ← List.map_reverse]
  exact List.map_congr_left fun i hi => colr_smb smb (hT i (List.mem_reverse.1 hi))
 have v1 : f40 l ps = some ((thl l ps).map (colr l), n, mvt l ps, 0, 0) := by rw [s40 hl hp (by omega), hn]
 have v2 : f40 n ps.reverse = some (((thl l ps).map (colr l)).reverse, b, mvt n ps.reverse, 0, 0) := by rw [s40 k1 hpr (by simp; omega), e1, hcol]
 have hCl : ((thl l ps).map (colr l)).length = ps.length := by rw [List.length_map, htl]
 generalize (thl l ps).map (colr l) = cs at v1 v2 hCl
 refine qbind _ (s15 l hl.sml) (qbind _ (s28 ps (by omega)) (qbind _ v1 (Yes.jn (Yes.bind (qskip rfl (qskip (bne_eq_false_iff_eq.2 (by rw [hCl])) (qbind _ (s41 k1 k1 smb rfl hbx) (Yes.some (qskip (by rw [decide_eq_true (Wh.rfl' _)]; rfl) ?_)))))))))
 refine Yes.bind (Yes.mono (Q' := fun r => r = ps.reverse) ?_ fun r hr => ?_)
 ·refine Yes.lp (fun s => ∃ k : Nat, s.2 = (k : Int) - 1 ∧ k ≤ ps.length ∧ s.1 = (ps.drop k).reverse) (fun s => (s.2 + 1).toNat) ⟨ps.length, by show w64 ((ps.length : Int) - 1) = _; rw [w64_id (by omega) (by omega)], Nat.le_refl _, by simp⟩ (by show (w64 ((ps.length : Int) - 1) + 1).toNat < _; rw [w64_id (by omega) (by omega)]; omega) ?_
  rintro ⟨q, d⟩ kk ⟨k, rfl, hk, rfl⟩ hk'
  refine Yes.jn (Yes.cond (fun hc => ?_) (fun hc => Yes.some ?_))
  ·have hc : (k : Int) - 1 ≥ 0 := of_decide_eq_true hc
   have hkl : k - 1 < ps.length := by omega
   refine Yes.bind (qbind (ps[k - 1]) (by show idx ps ((k : Int) - 1) = _; rw [show (k : Int) - 1 = ((k - 1 : Nat) : Int) by omega]; exact qidx hkl) (Yes.bind (Yes.apnd (by simp; omega) (by simp; omega) (Yes.some (hk' _ ⟨k - 1, ?_, by omega, ?_⟩ ?_)))))
   ·show w64 ((k : Int) - 1 - 1) = _; rw [w64_id (by omega) (by omega)]; omega
   ·show (ps.drop k).reverse ++ [ps[k - 1]] = (ps.drop (k - 1)).reverse
    rw [List.drop_eq_getElem_cons hkl, List.reverse_cons, show k - 1 + 1 = k by omega]
   ·show (w64 ((k : Int) - 1 - 1) + 1).toNat < ((k : Int) - 1 + 1).toNat
    rw [w64_id (by omega) (by omega)]; omega
  ·have hc : ¬ (k : Int) - 1 ≥ 0 := of_decide_eq_false hc
   have : k = 0 := by omega
   subst this; rfl
 subst hr
 refine qbind _ (s15 n k1.sml) (qbind _ v2 (Yes.jn (Yes.bind (qskip rfl (qskip (bne_eq_false_iff_eq.2 (by simp)) (Yes.bind ((s45 hl).mono fun v hv => qbind _ (s41 b1 hl smb2 smb2.len.symm hv) (Yes.some (qskip (by rw [decide_eq_true e2]; rfl) (Yes.jn ?_))))))))))
 refine Yes.upto0 cs.length (by omega) (fun _ => True) trivial (fun i k hi _ hk => ?_) (fun k _ => ?_)
 ·have hi2 : cs.length - 1 - i < cs.length := by omega
  refine Yes.jn (qtake (by simp; omega) (Yes.jn (qbind (cs.reverse[i]'(by simpa using hi)) (qidx (by simpa using hi)) (qbind (cs[cs.length - 1 - i]) ?_ (qskip ?_ (hk trivial))))))
  ·show idx cs (w64 (w64 ((cs.length : Int) - 1) - (i : Int))) = _
   rw [w64_id (n := (cs.length : Int) - 1) (by omega) (by omega), w64_id (by omega) (by omega), show (cs.length : Int) - 1 - (i : Int) = ((cs.length - 1 - i : Nat) : Int) by omega]
   exact qidx hi2
  ·rw [List.getElem_reverse]; simp
 refine Yes.jn (qskip (by simp) ?_)
 by_cases h0 : ps.length = 0
 ·have hck : chkP l ps = 0 := by
   unfold chkP; rw [if_neg (fun h => h (chk0.2 hl)), if_neg (by omega), if_neg (fun h => h hp)]
  exact qbind _ (s15 l hl.sml) (qbind _ (s28 ps (by omega)) (qbind _ (s36n hl.sml h0 hck) (Yes.jn (qtake (beq_iff_eq.2 (by show (ps.length : Int) = 0; omega)) (Yes.bind (qtake rfl (qtake rfl known)))))))
 ·obtain ⟨N, n1, n2, n3, n4⟩ := itr_end hl hp
  have n15 := itr_15 hl hp n4
  refine qbind _ (s15 l hl.sml) (qbind _ (s28 ps (by omega)) (qbind _ (s36 hl hp (by omega) h0 n1 n2 n3 n4) (Yes.jn (qskip (beq_eq_false_iff_ne.2 (by show (ps.length : Int) ≠ 0; omega)) (qbind _ (s15 l hl.sml) (Yes.jn ?_))))))
  refine Yes.lp (fun s => ∃ k : Nat, s.2.2 = (k : Int) + 1 ∧ k < N ∧ itr l ps k = some s.1 ∧ s.2.1 = false) (fun s => N + 1 - s.2.2.toNat) ⟨0, rfl, by omega, rfl, rfl⟩ (by simp; omega) ?_
  rintro ⟨v, fl, o⟩ kk ⟨k, rfl, hk, hv, rfl⟩ hk'
  obtain ⟨w1, w2, w3⟩ := itr_ok hl hp hv
  have hpv : ∀ p ∈ ps, okP v.Boxes p = true := fun p h => by rw [w2]; exact hp p h
  have hnext : itr l ps (k + 1) = thr v ps := by rw [itr, hv]; rfl
  refine Yes.jn (qtake (decide_eq_true (by show (k : Int) + 1 ≤ 15; omega)) (Yes.jn (qbind _ (s15 v w1.sml) (qbind _ (s28 ps (by omega)) (qbind _ (s40 w1 hpv (by omega)) (Yes.jn ?_))))))
  cases ht : thr v ps with
  | none =>
   rw [ht] at hnext
   have hN : k + 1 = N := Classical.byContradiction fun hne => by
    obtain ⟨c, hc, _⟩ := n4 (k + 1) (by omega) (by omega)
    rw [hnext] at hc; cases hc
   rw [← hN, hnext]
   exact qtake rfl (Yes.bind (qtake rfl (qtake rfl (qtake rfl known))))
  | some c =>
   rw [ht] at hnext
   obtain ⟨c1, c2, c3⟩ := itr_ok hl hp hnext
   have smc : Smb c v := thr_smb w1 hpv ht
   have smv : Smb v l := itr_smb hl hp hv
   refine qskip rfl (Yes.jn (Yes.bind (qskip rfl (Yes.some (qskip (bne_eq_false_iff_eq.2 (by show (c.Shuttles.length : Int) = (l.Shuttles.length : Int); rw [c3])) (Yes.bind ((s45 hl).mono fun u hu => qbind _ (s41 c1 hl (smc.trans smv) c3.symm hu) (Yes.cond (fun hc => ?_) (fun hc => ?_)))))))))
   ·have hw := of_decide_eq_true hc
    have hN : k + 1 = N := Classical.byContradiction fun hne => by
     obtain ⟨d, hd, hnw⟩ := n4 (k + 1) (by omega) (by omega)
     rw [hnext] at hd; cases hd; exact hnw hw
    rw [← hN, hnext]
    exact Yes.bind (qtake rfl (qtake (beq_iff_eq.2 (by show (((k + 1 : Nat)) : Int) = (k : Int) + 1; omega)) known))
   ·have hw := of_decide_eq_false hc
    have hne : k + 1 ≠ N := fun he => by
     rcases n3 with h | ⟨d, hd, hdw⟩
     ·rw [← he, hnext] at h; cases h
     ·rw [← he, hnext] at hd; cases hd; exact hw hdw
    refine hk' _ ⟨k + 1, ?_, by omega, hnext, rfl⟩ ?_
    ·show w64 ((k : Int) + 1 + 1) = _; rw [w64_id (by omega) (by omega)]; simp
    ·show N + 1 - (w64 ((k : Int) + 1 + 1)).toNat < N + 1 - ((k : Int) + 1).toNat
     rw [w64_id (by omega) (by omega)]; omega
end Go.Proofs.Ytmpjooneiaiffaa
