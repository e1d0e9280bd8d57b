/- Plain laws: picks thrown one by one, by the reference and by the race. -/
import Derived.Test.YtmpjooneiaiffaaLawF
set_option maxRecDepth 8000
namespace Go.Proofs.Ytmpjooneiaiffaa
open Go.RowKit
open Classical

noncomputable def thr : BoxLoom → List BoxPick → Option BoxLoom
 | l, [] => some l
 | l, p :: ps => match oneL l p with
  | some (n, _, _) => thr n ps
  | none => none
theorem thr_cons (l : BoxLoom) (p : BoxPick) (ps : List BoxPick) : thr l (p :: ps) = (oneL l p).bind fun x => thr x.1 ps := by
 rw [thr]
 cases oneL l p with
 | none => rfl
 | some x => rfl
theorem thr_append : ∀ (a b : List BoxPick) (l : BoxLoom), thr l (a ++ b) = (thr l a).bind fun n => thr n b
 | [], _, _ => rfl
 | p :: a, b, l => by
  rw [List.cons_append, thr_cons, thr_cons]
  cases oneL l p with
  | none => rfl
  | some x => exact thr_append a b x.1
theorem take_succ {α : Type} {xs : List α} {i : Nat} (h : i < xs.length) : xs.take (i + 1) = xs.take i ++ [xs[i]] := by
 rw [List.take_add_one, List.getElem?_eq_getElem h]; rfl
theorem thr_one (l : BoxLoom) (p : BoxPick) : thr l [p] = (oneL l p).map (·.1) := by
 unfold thr
 cases oneL l p with
 | none => rfl
 | some x => rfl
theorem thr_step {l : BoxLoom} {ps : List BoxPick} {i : Nat} (h : i < ps.length) {n : BoxLoom} (hn : thr l (ps.take i) = some n) : thr l (ps.take (i + 1)) = (oneL n ps[i]).map (·.1) := by
 rw [take_succ h, thr_append, hn, Option.bind_some, thr_one]
theorem thr_fail {l : BoxLoom} {ps : List BoxPick} {i : Nat} (h : i < ps.length) {n : BoxLoom} (hn : thr l (ps.take i) = some n) (hf : oneL n ps[i] = none) : thr l ps = none := by
 have h1 := thr_step h hn
 rw [hf] at h1
 rw [← List.take_append_drop (i + 1) ps, thr_append, h1]; rfl
theorem thr_ok {ps : List BoxPick} : ∀ {l n : BoxLoom}, LOk l → (∀ p ∈ ps, okP l.Boxes p = true) → thr l ps = some n → LOk n ∧ n.Boxes = l.Boxes ∧ n.Shuttles.length = l.Shuttles.length := by
 induction ps with
 | nil => intro l n hl _ h; cases h; exact ⟨hl, rfl, rfl⟩
 | cons p ps ih =>
  intro l n hl hp h
  unfold thr at h
  cases ho : oneL l p with
  | none => rw [ho] at h; cases h
  | some x =>
   obtain ⟨a, i, m⟩ := x
   rw [ho] at h
   obtain ⟨h1, h2, h3, _⟩ := oneL_ok hl (hp p (by simp)) ho
   obtain ⟨k1, k2, k3⟩ := ih h1 (fun q hq => by rw [h2]; exact hp q (by simp [hq])) h
   exact ⟨k1, k2.trans h2, k3.trans h3⟩
theorem thr_inj {ps : List BoxPick} : ∀ {a b a' b' : BoxLoom}, LOk a → LOk b → (∀ p ∈ ps, okP a.Boxes p = true) → (∀ p ∈ ps, okP b.Boxes p = true) → thr a ps = some a' → thr b ps = some b' → Wh a'.Shuttles b'.Shuttles → Wh a.Shuttles b.Shuttles := by
 induction ps with
 | nil => intro a b a' b' _ _ _ _ h k hw; cases h; cases k; exact hw
 | cons p ps ih =>
  intro a b a' b' ha hb hpa hpb h k hw
  unfold thr at h k
  cases ho : oneL a p with
  | none => rw [ho] at h; cases h
  | some x =>
   cases hq : oneL b p with
   | none => rw [hq] at k; cases k
   | some y =>
    obtain ⟨a1, i, m⟩ := x
    obtain ⟨b1, j, n⟩ := y
    rw [ho] at h; rw [hq] at k
    obtain ⟨h1, h2, _⟩ := oneL_ok ha (hpa p (by simp)) ho
    obtain ⟨k1, k2, _⟩ := oneL_ok hb (hpb p (by simp)) hq
    have := ih h1 k1 (fun q hq => by rw [h2]; exact hpa q (by simp [hq])) (fun q hq => by rw [k2]; exact hpb q (by simp [hq])) h k hw
    exact oneL_inj ha.dst hb.dst ho hq this h1.dst
theorem s32 {l : BoxLoom} (hl : LOk l) {ps : List BoxPick} (hp : ∀ p ∈ ps, okP l.Boxes p = true) (hlen : ps.length ≤ 24) :
  Yes (f32 l ps) (fun r => match thr l ps with | some n => r.1.After = n ∧ r.2 = true | none => r.2 = false) := by
 unfold f32
 refine qbind _ (s50 l hl.sml) (Yes.jn (Yes.upto2 (s0 := (⟨[], ⟨[], [], []⟩, 0⟩ : Grifferef04Run)) (t0 := (⟨[], l, 0⟩ : Grifferef04Run)) ps.length (by omega) (fun i _ t => thr l (ps.take i) = some t.After ∧ t.Thrown.length = i) ⟨by simp [thr], rfl⟩ (fun i s t k hi hI hk => ?_) (fun s t k hI => ?_)))
 ·obtain ⟨h1, h2⟩ := hI
  obtain ⟨k1, k2, _⟩ := thr_ok hl (fun p h => hp p (List.mem_of_mem_take h)) h1
  have hpi : okP t.After.Boxes ps[i] = true := by rw [k2]; exact hp _ (List.getElem_mem hi)
  refine Yes.jn (qtake (by simp; omega) (qbind _ (qidx hi) (qbind _ (s61 k1 hpi) (Yes.jn ?_))))
  cases ho : oneL t.After ps[i] with
  | none =>
   refine qtake rfl (Yes.some ?_)
   rw [thr_fail hi h1 ho]
  | some x =>
   obtain ⟨n, j, m⟩ := x
   refine qskip rfl (Yes.jn (Yes.bind (Yes.apnd (by simp [h2]; omega) (by simp [h2]; omega) (hk _ _ ⟨?_, by simp [h2]⟩))))
   rw [thr_step hi h1, ho]; rfl
 ·obtain ⟨h1, h2⟩ := hI
  refine Yes.jn (qskip (by simp) (Yes.some ?_))
  rw [List.take_length] at h1
  rw [h1]; exact ⟨rfl, rfl⟩
theorem s76 {l : BoxLoom} (hl : LOk l) {r : BoxRace} (hr : Rel r l) {ps : List BoxPick} (hp : ∀ p ∈ ps, okP l.Boxes p = true) (hlen : ps.length ≤ 24) :
  Yes (f76 r ps) (fun x => match thr l ps with | some n => Rel x.1.last n ∧ x.2.2 = 0 | none => x.2.2 = 9) := by
 unfold f76
 refine Yes.jn (Yes.upto ps.length (by omega) (fun i t => (∃ n, thr l (ps.take i) = some n ∧ Rel t.last n) ∧ t.thrown.length = i) ⟨⟨l, by simp [thr], hr⟩, rfl⟩ (fun i t k hi hI hk => ?_) (fun t k hI => ?_))
 ·obtain ⟨⟨n, h1, hrn⟩, h2⟩ := hI
  obtain ⟨k1, k2, _⟩ := thr_ok hl (fun p h => hp p (List.mem_of_mem_take h)) h1
  have hpi : okP n.Boxes ps[i] = true := by rw [k2]; exact hp _ (List.getElem_mem hi)
  refine qtake (by simp; omega) (Yes.jn (qbind _ (qidx hi) (Yes.bind ((s97 hrn k1 hpi).mono fun x hx => Yes.jn ?_))))
  cases ho : oneL n ps[i] with
  | none =>
   rw [ho] at hx
   have hx : x = (t.last, 0, 0) := hx
   subst hx
   refine qtake rfl (Yes.some ?_)
   rw [thr_fail hi h1 ho]
  | some y =>
   obtain ⟨n', j, m⟩ := y
   rw [ho] at hx
   obtain ⟨e1, e2, e3⟩ := hx
   refine qskip (by rw [e2]; simp; omega) (Yes.jn (Yes.bind (Yes.apnd (by simp [h2]; omega) (by simp [h2]; omega) (hk _ ⟨⟨n', ?_, e1⟩, by simp [h2]⟩))))
   rw [thr_step hi h1, ho]; rfl
 ·obtain ⟨⟨n, h1, hrn⟩, h2⟩ := hI
  refine qskip (by simp) (Yes.some ?_)
  rw [List.take_length] at h1
  rw [h1]; exact ⟨hrn, rfl⟩
theorem s54 {l : BoxLoom} (hl : LOk l) : Yes (f54 ⟨l⟩ (fun a0 a1 => f75 a0 a1)) (fun r => Rel r l) := by
 have hf := hl.few
 unfold f54
 refine Yes.bind (Yes.upto l.Shuttles.length (by omega) (fun n t => ∀ (s b : Nat) (hs : s < 2) (hb : b < 4), (∀ j, j < n → isAt l.Shuttles s b j → t.boxes[s][b] = (j : Int) + 1) ∧ ((∀ j, j < n → ¬ isAt l.Shuttles s b j) → t.boxes[s][b] = 0)) ?_ (fun i t k hi hI hk => ?_) (fun t k hI => ?_))
 ·intro s b hs hb
  refine ⟨fun j h => absurd h (Nat.not_lt_zero _), fun _ => ?_⟩
  rcases (by omega : s = 0 ∨ s = 1) with rfl | rfl <;> rcases (by omega : b = 0 ∨ b = 1 ∨ b = 2 ∨ b = 3) with rfl | rfl | rfl | rfl <;> rfl
 ·have hok := hl.sh _ (List.getElem_mem hi)
  unfold okS at hok
  simp only [Bool.and_eq_true, btw_iff] at hok
  obtain ⟨⟨⟨_, hs⟩, hb⟩, _⟩ := hok
  obtain ⟨S, hS⟩ : ∃ S : Nat, l.Shuttles[i].Side = S := ⟨l.Shuttles[i].Side.toNat, by omega⟩
  obtain ⟨B, hB⟩ : ∃ B : Nat, l.Shuttles[i].Box = B := ⟨l.Shuttles[i].Box.toNat, by omega⟩
  have hS2 : S < 2 := by omega
  have hbx := hl.box hS2
  rw [hS, Int.toNat_natCast] at hb
  have hB4 : B < 4 := by omega
  refine qtake (by simp; omega) (Yes.bind (qbind _ (qidx hi) (qbind ((i : Int) + 1) (by show some (w64 ((i : Int) + 1)) = _; rw [w64_id (by omega) (by omega)]) ?_)))
  rw [hS, hB]
  refine qbind _ (vidx t.boxes hS2) (qbind _ (vidx _ hB4) (Yes.some (hk _ fun s b hs hb => ?_)))
  show (∀ j, j < i + 1 → isAt l.Shuttles s b j → (vmod t.boxes (S : Int) (fun b => vset b (B : Int) ((i : Int) + 1)))[s][b] = (j : Int) + 1) ∧ ((∀ j, j < i + 1 → ¬ isAt l.Shuttles s b j) → (vmod t.boxes (S : Int) (fun b => vset b (B : Int) ((i : Int) + 1)))[s][b] = 0)
  have hat : isAt l.Shuttles S B i := ⟨hi, hS, hB⟩
  obtain ⟨o1, o2⟩ := hI s b hs hb
  by_cases hsb : S = s ∧ B = b
  ·obtain ⟨rfl, rfl⟩ := hsb
   have hv : (vmod t.boxes (S : Int) (fun b => vset b (B : Int) ((i : Int) + 1)))[S][B] = (i : Int) + 1 := by
    rw [vmod_at hs, if_pos rfl, vset_at hb, if_pos rfl]
   rw [hv]
   exact ⟨fun j _ hj => by rw [hl.dst.one hj hat], fun h => absurd hat (h i (by omega))⟩
  ·have hv : (vmod t.boxes (S : Int) (fun b => vset b (B : Int) ((i : Int) + 1)))[s][b] = t.boxes[s][b] := by
    by_cases hss : S = s
    ·subst hss
     rw [vmod_at hs, if_pos rfl, vset_at hb, if_neg (fun h => hsb ⟨rfl, h⟩)]
    ·rw [vmod_at hs, if_neg hss]
   rw [hv]
   refine ⟨fun j hj hja => ?_, fun h => o2 fun j hj => h j (by omega)⟩
   rcases Nat.lt_succ_iff_lt_or_eq.1 hj with h | rfl
   ·exact o1 j h hja
   ·have := isAt_same hat hja
    exact absurd ⟨by omega, by omega⟩ hsb
 ·refine qskip (by simp) (Yes.some (qbind _ (at_at hl.len (i := 0) (by omega)) (qbind _ (at_at hl.len (i := 1) (by omega)) (Yes.some ⟨fun s b hs hb => ?_, rfl⟩))))
  obtain ⟨o1, o2⟩ := hI s b hs hb
  show t.boxes[s][b] = _
  rcases inX_cases hl.dst s b with ⟨i, hi, e⟩ | ⟨hi, e⟩
  ·rw [e, o1 i hi.1 hi]
  ·rw [e, o2 fun j _ h => hi ⟨j, h⟩]; rfl
theorem s77 {a b : BoxLoom} (ha : a.Shuttles.length ≤ 1000) (hl : a.Shuttles.length = b.Shuttles.length) : f77 a b = some (decide (Wh a.Shuttles b.Shuttles)) := by
 have key : (∀ j (h1 : j < a.Shuttles.length) (h2 : j < b.Shuttles.length), a.Shuttles[j].Side = b.Shuttles[j].Side ∧ a.Shuttles[j].Box = b.Shuttles[j].Box) ↔ Wh a.Shuttles b.Shuttles := by
  constructor
  ·intro h s c i
   constructor
   ·rintro ⟨h1, h2, h3⟩
    have := h i h1 (by omega)
    exact ⟨by omega, this.1.symm.trans h2, this.2.symm.trans h3⟩
   ·rintro ⟨h1, h2, h3⟩
    have := h i (by omega) h1
    exact ⟨by omega, this.1.trans h2, this.2.trans h3⟩
  ·intro h j h1 h2
   obtain ⟨_, k1, k2⟩ := (h _ _ j).1 ⟨h1, rfl, rfl⟩
   exact ⟨k1.symm, k2.symm⟩
 refine Yes.eq ?_
 unfold f77
 refine Yes.jn (Yes.upto0 a.Shuttles.length (by omega) (fun i => ∀ j (h1 : j < a.Shuttles.length) (h2 : j < b.Shuttles.length), j < i → a.Shuttles[j].Side = b.Shuttles[j].Side ∧ a.Shuttles[j].Box = b.Shuttles[j].Box) (fun _ _ _ h => absurd h (Nat.not_lt_zero _)) (fun i k hi hI hk => ?_) (fun k hI => ?_))
 ·have hi2 : i < b.Shuttles.length := by omega
  refine Yes.jn (qtake (by simp; omega) (Yes.jn (Yes.bind (Yes.mono (Q' := fun r => r = !decide (a.Shuttles[i].Side = b.Shuttles[i].Side ∧ a.Shuttles[i].Box = b.Shuttles[i].Box)) ?_ fun r hr => ?_))))
  ·refine qbind _ (qidx hi) (qbind _ (qidx hi2) (Yes.cond (fun hc => Yes.some ?_) (fun hc => qbind _ (qidx hi) (qbind _ (qidx hi2) (Yes.some ?_)))))
   ·have : ¬ a.Shuttles[i].Side = b.Shuttles[i].Side := by simpa using hc
    simp [this]
   ·have : a.Shuttles[i].Side = b.Shuttles[i].Side := by simpa using hc
    by_cases h9 : a.Shuttles[i].Box = b.Shuttles[i].Box <;> simp [this, h9]
  ·subst hr
   refine Yes.cond (fun hc => Yes.some ?_) (fun hc => hk fun j h1 h2 hj => ?_)
   ·refine (decide_eq_false fun hw => ?_).symm
    rw [decide_eq_true (key.2 hw i hi hi2)] at hc; cases hc
   ·rcases Nat.lt_succ_iff_lt_or_eq.1 hj with h | rfl
    ·exact hI j h1 h2 h
    ·exact of_decide_eq_true (by simpa using hc)
 ·refine Yes.jn (qskip (by simp) (Yes.some (decide_eq_true (key.1 fun j h1 h2 => hI j h1 h2 h1)).symm))
theorem Rel.wh {a b : BoxLoom} (ha : LOk a) (hb : LOk b) {r q : BoxRace} (hr : Rel r a) (hq : Rel q b) (hw : Wh a.Shuttles b.Shuttles ∨ r.boxes = q.boxes) : Wh a.Shuttles b.Shuttles ∧ r.boxes = q.boxes := by
 have pl : ∀ {l : BoxLoom}, LOk l → ∀ {s c : Int} {i : Nat}, isAt l.Shuttles s c i → ∃ S B : Nat, S < 2 ∧ B < 4 ∧ s = S ∧ c = B := fun {l} hl {s c i} h => by
  obtain ⟨hi, rfl, rfl⟩ := h
  have hok := hl.sh _ (List.getElem_mem hi)
  unfold okS at hok
  simp only [Bool.and_eq_true, btw_iff] at hok
  obtain ⟨⟨⟨_, hs⟩, hb⟩, _⟩ := hok
  obtain ⟨S, hS⟩ : ∃ S : Nat, l.Shuttles[i].Side = S := ⟨l.Shuttles[i].Side.toNat, by omega⟩
  obtain ⟨B, hB⟩ : ∃ B : Nat, l.Shuttles[i].Box = B := ⟨l.Shuttles[i].Box.toNat, by omega⟩
  have hS2 : S < 2 := by omega
  have hbx := hl.box hS2
  rw [hS, Int.toNat_natCast] at hb
  exact ⟨S, B, hS2, by omega, hS, hB⟩
 have one : ∀ {a b : BoxLoom} (ha : LOk a) (hb : LOk b) {r q : BoxRace} (hr : Rel r a) (hq : Rel q b) (he : r.boxes = q.boxes) (s c : Int) (i : Nat), isAt a.Shuttles s c i → isAt b.Shuttles s c i := fun {a b} ha hb {r q} hr hq he s c i h => by
  obtain ⟨S, B, hS, hB, rfl, rfl⟩ := pl ha h
  have h1 := hr.bx S B hS hB
  rw [inX_some ha.dst h] at h1
  have h2 := hq.bx S B hS hB
  simp only [he] at h1
  rw [h1] at h2
  rcases inX_cases hb.dst S B with ⟨j, hj, e⟩ | ⟨_, e⟩
  ·rw [e] at h2
   have : i = j := by omega
   rw [this]; exact hj
  ·rw [e] at h2; omega
 rcases hw with hw | he
 ·refine ⟨hw, ?_⟩
  apply Vector.ext
  intro s hs
  apply Vector.ext
  intro b' hb'
  rw [hr.bx s b' hs hb', hq.bx s b' hs hb', inX_eq ha.dst hb.dst fun i => hw _ _ _]
 ·exact ⟨fun s c i => ⟨one ha hb hr hq he s c i, one hb ha hq hr he.symm s c i⟩, he⟩
end Go.Proofs.Ytmpjooneiaiffaa
