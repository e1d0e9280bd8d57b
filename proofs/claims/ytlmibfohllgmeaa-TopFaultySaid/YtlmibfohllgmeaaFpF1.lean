/- Laws of plain functions, part 1. -/
import Derived.Test.YtlmibfohllgmeaaFtF1
set_option maxRecDepth 8000
namespace Go.Proofs.Ytlmibfohllgmeaa
open Go.RowKit
open Classical
theorem Vp {α : Type} {Q : α → Prop} {c : Bool} {X Y : Option α} (hc : c = false) (h : Yes Y Q) : Yes (bif c then X else Y) Q := by rw [hc]; exact h
theorem Fq {α : Type} {Q : α → Prop} {c : Bool} {X Y : Option α} (hc : c = true) (h : Yes X Q) : Yes (bif c then X else Y) Q := by rw [hc]; exact h
theorem Jp {α β : Type} {Q : β → Prop} {x : Option α} {f : α → Option β} (a : α) (h : x = some a) (k : Yes (f a) Q) : Yes (x.bind f) Q := by rw [h]; exact k
theorem Eu {n : Int} (h1 : -1000000000 ≤ n) (h2 : n ≤ 1000000000) : w64 n = n := Qw (by omega) (by omega)
theorem Eh {n : Int} (h1 : 0 ≤ n) (h2 : n ≤ 9223372036854775807) : Qk n = n := by
 unfold Qk; rw [show IntKind.u64.wrap n = n % 18446744073709551616 from rfl]; omega
theorem Nh {a b : Int} (ha : 0 ≤ a) (ha2 : a ≤ 9223372036854775807) (hb : 0 < b) : Xz a b = some (a / b) := by
 unfold Xz
 rw [if_neg (by omega), Int.tdiv_eq_ediv_of_nonneg ha, Qw]
 ·have := Int.ediv_nonneg ha (Int.le_of_lt hb); omega
 ·exact Int.le_trans (Int.ediv_le_self b ha) ha2
theorem Ob (a b : Int) : Ha a b = min a b := by unfold Ha; omega
def Js (a b x : Int) : Bool := decide (a ≤ x ∧ x ≤ b)
theorem s78P (x a b : Int) : f50 x a b = some (!Js a b x) := by unfold f50 Js; by_cases h1 : x < a <;> by_cases h2 : x > b <;> simp [h1, h2] <;> omega
theorem s68P (xs : List Int) (φ : Int → Option Bool) (p : Int → Bool) (hl : xs.length < 9223372036854775807) (h : ∀ a ∈ xs, φ a = some (p a)) : f39 xs φ = some (xs.any p) :=
 Yes.eq (Yes.bind (Yes.mono (Ro xs φ p hl h) fun _ hr => Yes.some (Bn hr)))
theorem s54P (a b : Int) (xs : List Int) (hl : xs.length < 9223372036854775807) : f32 a b xs = some (xs.all (Js a b)) := by
 unfold f32
 rw [s68P xs _ (fun x => !Js a b x) hl fun x _ => s78P x a b]
 simp [List.all_eq_not_any_not]
theorem Di (a b x : Int) : f32 a b [x] = some (Js a b x) := by rw [s54P _ _ _ (by simp)]; simp
theorem s53P (xs : List Int) (hl : xs.length < 9223372036854775807) : f68 xs = some (xs.all (Js 0 1000)) := by
 unfold f68; rw [s54P _ _ _ hl]; rfl

def Nd (rs : List Gr) (i : Nat) (h : i < rs.length) : Prop := Js 0 1000 rs[i].From = true ∧ Js 0 10000 rs[i].Rate = true ∧ (i = 0 → rs[i].From = 0) ∧ ∀ _ : 0 < i, (rs[i - 1]'(by omega)).From < rs[i].From
def Un (rs : List Gr) : Prop := ∀ i (h : i < rs.length), Nd rs i h
def Jz (l : PayList) : Prop := Un l.Rates ∧ (∀ x ∈ l.Extras, Js 0 1000 x = true) ∧ 0 < l.Rates.length ∧ Js 0 1000 l.Fine = true ∧ Js 0 1000 l.Cap = true
def Bu (l : PayList) : Prop := l.Rates.length > 6 ∨ l.Extras.length > 8
noncomputable def Fb (l : PayList) : Int := if Bu l then 5 else if Jz l then 0 else 2
theorem Wl {a b x : Int} : Js a b x = true ↔ a ≤ x ∧ x ≤ b := by simp [Js]
theorem s52P (l : PayList) (hl : l.Rates.length ≤ 1000) : f67 ⟨l⟩ = some (decide (Un l.Rates ∧ 0 < l.Rates.length)) := by
 refine Yes.eq ?_
 unfold f67
 refine Yes.jn ?_
 show Yes (lp _ big ((0 : Int), (0 : Int), (0 : Int))) _
 refine Yes.upto2 l.Rates.length (by omega) (fun i s t => (∀ j (h : j < l.Rates.length), j < i → Nd l.Rates j h) ∧ (i = 0 → s = 0 ∧ t = 0) ∧ ∀ (h : 0 < i) (h2 : i ≤ l.Rates.length), s = (l.Rates[i - 1]'(by omega)).From + 1 ∧ t = 1000)
  ⟨fun _ _ h => absurd h (Nat.not_lt_zero _), fun _ => ⟨rfl, rfl⟩, fun h => absurd h (Nat.lt_irrefl _)⟩ (fun i s t k hi hI hk => ?_) (fun s t k hI => ?_)
 ·obtain ⟨hok, hz, hp⟩ := hI
  refine Fq (by simp; omega) (Yes.jn (Yes.bind (Yes.idx rfl hi (Yes.jn (Yes.bind ?_)))))
  have fin : Nd l.Rates i hi → Yes (k (w64 (l.Rates[i].From + 1), (1000 : Int), w64 ((i : Int) + 1))) (fun r => r = decide (Un l.Rates ∧ 0 < l.Rates.length)) := fun ho => by
   have hb := Wl.1 ho.1
   rw [Eu (n := l.Rates[i].From + 1) (by omega) (by omega)]
   refine hk _ _ ⟨fun j hj hji => ?_, fun h => absurd h (by omega), fun _ _ => ⟨by simp, rfl⟩⟩
   rcases Nat.lt_succ_iff_lt_or_eq.1 hji with h | rfl
   ·exact hok j hj h
   ·exact ho
  have bad : ¬ Nd l.Rates i hi → (false : Bool) = decide (Un l.Rates ∧ 0 < l.Rates.length) := fun hn => by
   rw [eq_comm, decide_eq_false_iff_not]; exact fun h => hn (h.1 i hi)
  rw [Di]
  have hs : Js s t l.Rates[i].From = true ↔ Js 0 1000 l.Rates[i].From = true ∧ (i = 0 → l.Rates[i].From = 0) ∧ ∀ _ : 0 < i, (l.Rates[i - 1]'(by omega)).From < l.Rates[i].From := by
   rw [Wl, Wl]
   rcases Nat.eq_zero_or_pos i with h0 | h0
   ·obtain ⟨rfl, rfl⟩ := hz h0
    constructor
    ·intro h; exact ⟨by omega, fun _ => by omega, fun h2 => absurd h2 (by omega)⟩
    ·intro h; have := h.2.1 h0; omega
   ·obtain ⟨rfl, rfl⟩ := hp h0 (by omega)
    have hb := Wl.1 (hok (i - 1) (by omega) (by omega)).1
    constructor
    ·intro h; exact ⟨by omega, fun h2 => absurd h2 (by omega), fun _ => by omega⟩
    ·intro h; have := h.2.2 h0; omega
  refine Yes.bind (Yes.some (Yes.cond (fun h => Yes.some (Fq rfl (Yes.some ?_))) fun h => ?_))
  ·refine bad fun ho => ?_
   have : Js s t l.Rates[i].From = true := hs.2 ⟨ho.1, ho.2.2⟩
   rw [this] at h; cases h
  ·have h1 : Js s t l.Rates[i].From = true := by simpa using h
   obtain ⟨h2, h3⟩ := hs.1 h1
   rw [Di]
   refine Yes.bind (Yes.some (Yes.some (Yes.cond (fun h4 => Yes.some ?_) fun h4 => fin ⟨h2, by simpa using h4, h3⟩)))
   refine bad fun ho => ?_
   rw [ho.2.1] at h4; cases h4
 ·refine Vp (by simp) (Yes.some ?_)
  rw [decide_eq_decide]
  exact ⟨fun h => ⟨fun i hi => hI.1 i hi hi, by simpa using h⟩, fun h => by have := h.2; simp; omega⟩
theorem s15P (l : PayList) (h1 : l.Rates.length ≤ 1000) (h2 : l.Extras.length ≤ 1000) : f47 l = some (Fb l) := by
 refine Yes.eq ?_
 unfold f47
 refine Yes.jn (Yes.bind (Yes.mono (Q' := fun r => r = decide (Bu l)) ?_ fun r hr => ?_))
 ·refine Yes.cond (fun h => Yes.some ?_) fun h => Yes.some ?_
  ·rw [h, eq_comm, decide_eq_true_eq]; simp at h; exact .inl (by omega)
  ·rw [decide_eq_decide]; simp at h; unfold Bu; omega
 ·subst hr
  refine Yes.cond (fun h => Yes.some ?_) fun h => ?_
  ·simp only [decide_eq_true_eq] at h; unfold Fb; rw [if_pos h]
  ·have hn : ¬ Bu l := by simpa using h
   refine Yes.bind (Yes.mono (Q' := fun r => r = !decide (Jz l)) ?_ fun r hr => ?_)
   ·refine Jp _ (s52P l h1) (Yes.cond (fun h => Yes.some ?_) fun h => ?_)
    ·have : ¬ Jz l := fun ho => by simp only [Bool.not_eq_true', decide_eq_false_iff_not] at h; exact h ⟨ho.1, ho.2.2.1⟩
     rw [h]; simp [this]
    ·have hr : Un l.Rates ∧ 0 < l.Rates.length := by simpa using h
     rw [s53P _ (by omega)]
     refine Yes.bind (Yes.some (Yes.cond (fun h => Yes.some ?_) fun h => ?_))
     ·have : ¬ Jz l := fun ho => by
       have : l.Extras.all (Js 0 1000) = true := List.all_eq_true.2 ho.2.1
       rw [this] at h; cases h
      rw [h]; simp [this]
     ·have he : ∀ x ∈ l.Extras, Js 0 1000 x = true := List.all_eq_true.1 (by simpa using h)
      rw [Di]
      refine Yes.bind (Yes.some (Yes.cond (fun h => Yes.some ?_) fun h => ?_))
      ·have : ¬ Jz l := fun ho => by rw [ho.2.2.2.1] at h; cases h
       rw [h]; simp [this]
      ·have hf : Js 0 1000 l.Fine = true := by simpa using h
       rw [s53P _ (by simp)]
       refine Yes.bind (Yes.some (Yes.some ?_))
       congr 1
       simp only [List.all_cons, List.all_nil, Bool.and_true]
       by_cases hc : Js 0 1000 l.Cap = true
       ·have : Jz l := ⟨hr.1, he, hr.2, hf, hc⟩
        simp [this, hc]
       ·have : ¬ Jz l := fun ho => hc ho.2.2.2.2
        simp [this]; simpa using hc
   ·subst hr
    refine Yes.cond (fun h => Yes.some ?_) fun h => Yes.some ?_
    ·have : ¬ Jz l := by simpa using h
     unfold Fb; rw [if_neg hn, if_neg this]
    ·have : Jz l := by simpa using h
     unfold Fb; rw [if_neg hn, if_pos this]
theorem s77P (x y : Int) : f56 x y = some (if x < y then -1 else if y < x then 1 else 0) := by
 have h : ∀ z, f75 z = some false := fun z => by simp [f75]
 unfold f56
 rw [h, h]
 simp only [Option.bind_some, jn, cond_false]
 by_cases h1 : x < y
 ·simp [h1]
 ·by_cases h2 : y < x
  ·simp [h1, h2]
  ·simp [h1, h2]
theorem s104P (r : Gr) (y : Int) : f71 r y = some (if r.From < y then -1 else if y < r.From then 1 else 0) := by unfold f71; rw [s77P]; rfl
def ascP (xs : List Int) : Prop := xs = []
theorem s102P {xs : List Int} (h : ascP xs) (_hl : xs.length ≤ 1000000) : f69 xs = some true := by rw [show xs = [] from h]; kernel_rfl
def Ye (l : PayList) (p : Th) : Prop := Js 0 50 p.Weaver = true ∧ Js 0 1000 p.Dense = true ∧ Js 0 1000000 p.Picks = true ∧ Js 0 100 p.Faults = true ∧ (∀ x ∈ p.Extras, 0 ≤ x ∧ x < (l.Extras.length : Int)) ∧ ascP p.Extras
theorem s79P {l : PayList} {p : Th} (h : Ye l p) (h1 : p.Extras.length ≤ 1000) (h2 : l.Extras.length ≤ 1000) : f48 ⟨l⟩ p = some 0 := by
 obtain ⟨ha, hb, hc, hd, he, hf⟩ := h
 refine Yes.eq ?_
 unfold f48
 refine Yes.jn (Yes.bind (Yes.mono (Q' := fun r => r = false) ?_ fun r hr => ?_))
 ·simp only [Di, ha, hb, hc, hd]; exact Yes.some rfl
 ·subst hr
  refine Vp rfl ?_
  rw [Eu (n := (l.Extras.length : Int) - 1) (by omega) (by omega), s54P _ _ _ (by omega)]
  have hall : p.Extras.all (Js 0 ((l.Extras.length : Int) - 1)) = true := List.all_eq_true.2 fun x hx => Wl.2 (by have := he x hx; omega)
  rw [hall]
  exact Yes.bind (Yes.some (Vp rfl (Jp _ (s102P hf (by omega)) (Vp rfl (Yes.some rfl)))))
structure Vl (l : PayList) : Prop where
 ok : Jz l
 r6 : l.Rates.length ≤ 6
 e8 : l.Extras.length ≤ 8
theorem Vl.chk {l : PayList} (h : Vl l) : Fb l = 0 := by
 have : ¬ Bu l := fun hl => by have := h.r6; have := h.e8; unfold Bu at hl; omega
 unfold Fb; rw [if_neg this, if_pos h.ok]
theorem s55P {l : PayList} {p : Th} (h : Vl l) (hp : Ye l p) (h1 : p.Extras.length ≤ 1000) : f28 l p = some (⟨l⟩, 0) := by
 have := h.r6; have := h.e8
 refine Yes.eq ?_
 unfold f28
 refine Yes.jn (Jp _ (s15P l (by omega) (by omega)) (Vp (by rw [h.chk]; rfl) (Jp _ (s79P hp h1 (by omega)) (Yes.some rfl))))

def Uj (d : Int) (a : Int) (r : Gr) : Int := if r.From ≤ d then r.Rate else a
def Yj (rs : List Gr) (d : Int) : Int := rs.foldl (Uj d) 0
def Dg (ex : List Int) (a x : Int) : Int := a + ex.getD x.toNat 0
def Xk (ex xs : List Int) : Int := xs.foldl (Dg ex) 1000
def Xf (l : PayList) (p : Th) : Int := p.Picks * Yj l.Rates p.Dense * Xk l.Extras p.Extras / 1000000
def Dd (l : PayList) (e n : Int) : Int := min (n * l.Fine) (e * l.Cap / 1000)
def Db (l : PayList) (p : Th) (n : Int) : Int := Xf l p - Dd l (Xf l p) n
theorem Bh (d : Int) : ∀ (rs : List Gr) (a : Int), (∀ r ∈ rs, Js 0 10000 r.Rate = true) → 0 ≤ a ∧ a ≤ 10000 → 0 ≤ rs.foldl (Uj d) a ∧ rs.foldl (Uj d) a ≤ 10000
 | [], a, _, h => h
 | r :: rs, a, hr, h => by
  rw [List.foldl_cons]
  refine Bh d rs _ (fun x hx => hr x (by simp [hx])) ?_
  have := Wl.1 (hr r (by simp))
  unfold Uj; split <;> omega
theorem Pi {l : PayList} (h : Vl l) (d : Int) : 0 ≤ Yj l.Rates d ∧ Yj l.Rates d ≤ 10000 :=
 Bh d _ 0 (fun r hr => by obtain ⟨i, hi, rfl⟩ := List.getElem_of_mem hr; exact (h.ok.1 i hi).2.1) ⟨by omega, by omega⟩
theorem Io {l : PayList} (h : Vl l) {x : Int} (hx : 0 ≤ x ∧ x < (l.Extras.length : Int)) : idx l.Extras x = some (l.Extras.getD x.toNat 0) ∧ 0 ≤ l.Extras.getD x.toNat 0 ∧ l.Extras.getD x.toNat 0 ≤ 1000 := by
 have hl : x.toNat < l.Extras.length := by omega
 rw [List.getD_eq_getElem?_getD, List.getElem?_eq_getElem hl, Option.getD_some]
 refine ⟨?_, Wl.1 (h.ok.2.1 _ (List.getElem_mem hl))⟩
 unfold idx; rw [if_pos hx.1]; exact List.getElem?_eq_getElem hl
theorem Ve {l : PayList} (h : Vl l) : ∀ (xs : List Int) (a : Int), (∀ x ∈ xs, 0 ≤ x ∧ x < (l.Extras.length : Int)) → 0 ≤ a → a ≤ xs.foldl (Dg l.Extras) a ∧ xs.foldl (Dg l.Extras) a ≤ a + 1000 * xs.length
 | [], a, _, h => by simp
 | x :: xs, a, hx, h0 => by
  obtain ⟨_, h1, h2⟩ := Io h (hx x (by simp))
  rw [List.foldl_cons]
  have := Ve h xs (Dg l.Extras a x) (fun y hy => hx y (by simp [hy])) (by unfold Dg; omega)
  unfold Dg at this ⊢
  simp only [List.length_cons]
  omega
theorem Pg {l : PayList} (h : Vl l) {xs : List Int} (hx : ∀ x ∈ xs, 0 ≤ x ∧ x < (l.Extras.length : Int)) (hl : xs.length ≤ 1000) : 1000 ≤ Xk l.Extras xs ∧ Xk l.Extras xs ≤ 1001000 := by
 have := Ve h xs 1000 hx (by omega)
 unfold Xk; omega
theorem Cj {α β : Type} (F : β → α → β) (xs : List α) (a : β) {i : Nat} (hi : i < xs.length) : (xs.take (i + 1)).foldl F a = F ((xs.take i).foldl F a) xs[i] := by
 rw [List.take_succ_eq_append_getElem hi, List.foldl_append]; rfl
theorem Rj {a b A B : Int} (ha : 0 ≤ a) (hA : a ≤ A) (hb : 0 ≤ b) (hB : b ≤ B) : 0 ≤ a * b ∧ a * b ≤ A * B :=
 ⟨Int.mul_nonneg ha hb, Int.mul_le_mul hA hB hb (Int.le_trans ha hA)⟩
theorem Bq {l : PayList} {p : Th} (h : Vl l) (hp : Ye l p) (h1 : p.Extras.length ≤ 1000) :
  (0 ≤ p.Picks * Yj l.Rates p.Dense ∧ p.Picks * Yj l.Rates p.Dense ≤ 10000000000) ∧ (0 ≤ p.Picks * Yj l.Rates p.Dense * Xk l.Extras p.Extras ∧ p.Picks * Yj l.Rates p.Dense * Xk l.Extras p.Extras ≤ 10010000000000000) ∧ 0 ≤ Xf l p ∧ Xf l p ≤ 10010000000 := by
 have hr := Pi h p.Dense
 have hq := Pg h hp.2.2.2.2.1 h1
 have hk := Wl.1 hp.2.2.1
 have e1 := Rj hk.1 hk.2 hr.1 hr.2
 have e2 := Rj e1.1 e1.2 (by omega) hq.2
 refine ⟨⟨e1.1, by omega⟩, ⟨e2.1, by omega⟩, ?_⟩
 unfold Xf; omega
theorem Ic {a b : Nat} (h : a + b < 4611686018427387904) {β : Type} {K : Int → Option β} {Q : β → Prop} (hk : Yes (K (((a + b) / 2 : Nat) : Int)) Q) : Yes ((Hz (Qk (w64 ((a : Int) + (b : Int)))) (1 : Int)).bind K) Q := by
 refine Yes.bind (Yes.of (a := (((a + b) / 2 : Nat) : Int)) ?_ hk)
 rw [Qw (by omega) (by omega), show ((a : Int) + (b : Int)) = ((a + b : Nat) : Int) by omega, Eh (by omega) (by omega)]
 unfold Hz
 rw [if_neg (by omega)]
 congr 1
 show Int.fdiv _ (2 ^ (min (Int.toNat 1) 64)) = _
 rw [show min (Int.toNat 1) 64 = 1 by decide, Int.pow_one]
 rw [Int.fdiv_eq_ediv_of_nonneg _ (by omega)]; omega
theorem s103P {rs : List Gr} (d : Int) (hl : rs.length ≤ 1000) (hs : ∀ i j (hi : i < rs.length) (hj : j < rs.length), i < j → rs[i].From < rs[j].From) :
  Yes (f70 rs d (fun a0 a1 => f71 a0 a1)) fun r => ∃ m : Nat, m ≤ rs.length ∧ (∀ j (h : j < rs.length), j < m → rs[j].From < d) ∧ (∀ j (h : j < rs.length), m ≤ j → d ≤ rs[j].From) ∧ r = ((m : Int), decide (∃ h : m < rs.length, rs[m].From = d)) := by
 unfold f70
 refine Yes.bind (Yes.mono (Q' := fun r => ∃ m : Nat, m ≤ rs.length ∧ (∀ j (h : j < rs.length), j < m → rs[j].From < d) ∧ (∀ j (h : j < rs.length), m ≤ j → d ≤ rs[j].From) ∧ r = (m : Int)) ?_ fun r hr => ?_)
 ·refine Yes.lp (fun s => ∃ a b : Nat, s = ((a : Int), (b : Int)) ∧ a ≤ b ∧ b ≤ rs.length ∧ (∀ j (h : j < rs.length), j < a → rs[j].From < d) ∧ (∀ j (h : j < rs.length), b ≤ j → d ≤ rs[j].From)) (fun s => (s.2 - s.1).toNat)
   ⟨0, rs.length, rfl, Nat.zero_le _, Nat.le_refl _, fun _ _ h => absurd h (Nat.not_lt_zero _), fun j h h2 => absurd h (by omega)⟩ (by simp; omega) ?_
  rintro ⟨s, t⟩ k ⟨a, b, he, hab, hb, h1, h2⟩ hk
  injection he with e1 e2; subst e1; subst e2
  refine Yes.jn (Yes.cond (fun h3 => ?_) (fun h3 => Yes.some ?_))
  ·have hlt : a < b := by simp at h3; omega
   have hm : (a + b) / 2 < rs.length := by omega
   refine Ic (by omega) ?_
   rw [Qw (n := (((a + b) / 2 : Nat) : Int)) (by omega) (by omega)]
   refine Yes.bind (Yes.idx rfl hm ?_)
   refine Jp _ (s104P _ _) (Yes.cond (fun h4 => ?_) (fun h4 => ?_))
   ·have hd : rs[(a + b) / 2].From < d := by
     by_cases hc : rs[(a + b) / 2].From < d
     ·exact hc
     ·rw [if_neg hc] at h4; split at h4 <;> simp at h4
    rw [Qw (n := (((a + b) / 2 : Nat) : Int) + 1) (by omega) (by omega)]
    refine hk _ ⟨(a + b) / 2 + 1, b, by simp, by omega, hb, fun j hj hjm => ?_, h2⟩ (by simp; omega)
    rcases Nat.lt_succ_iff_lt_or_eq.1 hjm with h | rfl
    ·have := hs j _ hj hm h; omega
    ·exact hd
   ·have hd : d ≤ rs[(a + b) / 2].From := by
     by_cases hc : rs[(a + b) / 2].From < d
     ·rw [if_pos hc] at h4; simp at h4
     ·omega
    refine hk _ ⟨a, (a + b) / 2, rfl, by omega, by omega, h1, fun j hj hjm => ?_⟩ (by simp; omega)
    rcases Nat.eq_or_lt_of_le hjm with h | h
    ·subst h; exact hd
    ·have := hs _ j hm hj h; omega
  ·have : a = b := by simp at h3; omega
   subst this
   exact ⟨a, hb, h1, h2, rfl⟩
 ·obtain ⟨m, hm, h1, h2, rfl⟩ := hr
  refine Yes.bind (Yes.cond (fun h3 => ?_) (fun h3 => Yes.some (Yes.some ⟨m, hm, h1, h2, ?_⟩)))
  ·have hlt : m < rs.length := by simp at h3; omega
   refine Yes.bind (Yes.idx rfl hlt ?_)
   refine Jp _ (s104P _ _) (Yes.some (Yes.some ⟨m, hm, h1, h2, ?_⟩))
   have hd := h2 m hlt (Nat.le_refl _)
   congr 1
   rw [if_neg (by omega)]
   by_cases hc : d < rs[m].From
   ·rw [if_pos hc, eq_comm]
    have : ¬ ∃ h : m < rs.length, rs[m].From = d := fun ⟨_, he⟩ => by omega
    simp [this]
   ·rw [if_neg hc, eq_comm]
    have : ∃ h : m < rs.length, rs[m].From = d := ⟨hlt, by omega⟩
    simp [this]
  ·have hn : ¬ m < rs.length := by simp at h3; omega
   congr 1
   have : ¬ ∃ h : m < rs.length, rs[m].From = d := fun ⟨h, _⟩ => hn h
   simp [this]
theorem De {rs : List Gr} (h : Un rs) : ∀ i j (hi : i < rs.length) (hj : j < rs.length), i < j → rs[i].From < rs[j].From := by
 intro i j hi hj hij
 induction j with
 | zero => omega
 | succ j ih =>
  have h1 := (h (j + 1) hj).2.2.2 (by omega)
  simp only [Nat.add_sub_cancel] at h1
  rcases Nat.lt_succ_iff_lt_or_eq.1 hij with h2 | rfl
  ·have := ih (by omega) h2; omega
  ·exact h1
theorem Cl (d : Int) : ∀ (rs : List Gr) (a : Int), (∀ r ∈ rs, ¬ r.From ≤ d) → rs.foldl (Uj d) a = a
 | [], _, _ => rfl
 | r :: rs, a, h => by
  rw [List.foldl_cons]
  rw [show Uj d a r = a by unfold Uj; rw [if_neg (h r (by simp))]]
  exact Cl d rs a fun x hx => h x (by simp [hx])
theorem Ps {rs : List Gr} {d : Int} {e : Nat} (he : e < rs.length) (h1 : rs[e].From ≤ d) (h2 : ∀ j (h : j < rs.length), e < j → d < rs[j].From) : Yj rs d = rs[e].Rate := by
 unfold Yj
 have key : rs.foldl (Uj d) 0 = (rs.take (e + 1) ++ rs.drop (e + 1)).foldl (Uj d) 0 := by rw [List.take_append_drop]
 rw [key, List.foldl_append, Cj _ _ _ he, Cl]
 ·unfold Uj; rw [if_pos h1]
 ·intro r hr
  obtain ⟨j, hj, rfl⟩ := List.getElem_of_mem hr
  rw [List.getElem_drop]
  rw [List.length_drop] at hj
  have := h2 (e + 1 + j) (by omega) (by omega)
  omega
theorem s80P {l : PayList} (h : Vl l) {d : Int} (hd : 0 ≤ d) : f49 ⟨l⟩ d = some (Yj l.Rates d) := by
 have h6 := h.r6
 have h0 := h.ok.2.2.1
 have hz := (h.ok.1 0 h0).2.2.1 rfl
 refine Yes.eq ?_
 unfold f49
 dsimp only
 refine Yes.bind (Yes.mono (s103P d (by omega) (De h.ok.1)) fun r hr => ?_)
 obtain ⟨m, hm, h1, h2, rfl⟩ := hr
 simp only
 by_cases hf : ∃ h : m < l.Rates.length, l.Rates[m].From = d
 ·rw [decide_eq_true hf]
  obtain ⟨hm2, he⟩ := hf
  refine Yes.bind (Vp rfl (Yes.some (Yes.bind (Yes.idx rfl hm2 (Yes.some ?_)))))
  rw [Ps hm2 (by omega) fun j hj hjm => by have := De h.ok.1 m j hm2 hj hjm; omega]
 ·rw [decide_eq_false hf]
  have hmp : 0 < m := by
   rcases Nat.eq_zero_or_pos m with rfl | h3
   ·have := h2 0 h0 (Nat.le_refl _)
    exact absurd ⟨h0, by omega⟩ hf
   ·exact h3
  rw [Qw (n := (m : Int) - 1) (by omega) (by omega)]
  refine Yes.bind (Fq rfl (Yes.some (Yes.bind (Yes.idx (n := m - 1) (by omega) (by omega) (Yes.some ?_)))))
  rw [Ps (e := m - 1) (by omega) (by have := h1 (m - 1) (by omega) (by omega); omega) fun j hj hjm => ?_]
  have h3 := h2 j hj (by omega)
  rcases Nat.eq_or_lt_of_le (show m ≤ j by omega) with h4 | h4
  ·subst h4
   rcases Int.lt_or_eq_of_le h3 with h5 | h5
   ·exact h5
   ·exact absurd ⟨hj, h5.symm⟩ hf
  ·have := De h.ok.1 m j (by omega) hj h4
   have := h2 m (by omega) (Nat.le_refl _)
   omega
theorem s56P {l : PayList} {p : Th} (h : Vl l) (hp : Ye l p) (h1 : p.Extras.length ≤ 1000) : f29 ⟨l⟩ p = some (Xf l p) := by
 obtain ⟨e1, e2, _⟩ := Bq h hp h1
 refine Yes.eq ?_
 unfold f29
 refine Yes.bind (Yes.mono (Q' := fun r => r = Xk l.Extras p.Extras) ?_ fun r hr => ?_)
 ·refine Yes.upto p.Extras.length (by omega) (fun i s => s = (p.Extras.take i).foldl (Dg l.Extras) 1000) rfl (fun i s k hi hI hk => ?_) (fun s k hI => ?_)
  ·have hx := Io h (hp.2.2.2.2.1 _ (List.getElem_mem hi))
   have hb := Ve h (p.Extras.take i) 1000 (fun x hx => hp.2.2.2.2.1 x (List.mem_of_mem_take hx)) (by omega)
   rw [← hI, List.length_take] at hb
   refine Fq (by simp; omega) (Yes.bind (Yes.bind (Yes.idx rfl hi (Jp _ hx.1 (Yes.some ?_)))))
   rw [Eu (by omega) (by omega)]
   refine hk _ ?_
   rw [Cj _ _ _ hi, ← hI]; rfl
  ·refine Vp (by simp) (Yes.some ?_)
   rw [hI, List.take_length]; rfl
 ·subst hr
  refine Jp _ (s80P h (Wl.1 hp.2.1).1) ?_
  rw [Qw (n := p.Picks * Yj l.Rates p.Dense) (by omega) (by omega), Qw (n := p.Picks * Yj l.Rates p.Dense * Xk l.Extras p.Extras) (by omega) (by omega), Nh e2.1 (by omega) (by omega)]
  exact Yes.bind (Yes.some (Yes.some rfl))
theorem Cw {l : PayList} (h : Vl l) {e n : Int} (he : 0 ≤ e ∧ e ≤ 10010000000) (hn : 0 ≤ n ∧ n ≤ 100) : (0 ≤ n * l.Fine ∧ n * l.Fine ≤ 100000) ∧ (0 ≤ e * l.Cap ∧ e * l.Cap ≤ 10010000000000) ∧ e * l.Cap / 1000 ≤ e := by
 have h1 := Wl.1 h.ok.2.2.2.1
 have h2 := Wl.1 h.ok.2.2.2.2
 have e1 := Rj hn.1 hn.2 h1.1 h1.2
 have e2 := Rj he.1 he.2 h2.1 h2.2
 have e3 : e * l.Cap ≤ e * 1000 := Int.mul_le_mul_of_nonneg_left h2.2 he.1
 exact ⟨⟨e1.1, by omega⟩, ⟨e2.1, by omega⟩, by omega⟩
theorem s57P {l : PayList} (h : Vl l) {e n : Int} (he : 0 ≤ e ∧ e ≤ 10010000000) (hn : 0 ≤ n ∧ n ≤ 100) : f30 ⟨l⟩ e n = some (Dd l e n) := by
 obtain ⟨e1, e2, _⟩ := Cw h he hn
 refine Yes.eq ?_
 unfold f30
 simp only
 rw [Qw (n := e * l.Cap) (by omega) (by omega), Nh e2.1 (by omega) (by omega), Qw (n := n * l.Fine) (by omega) (by omega)]
 exact Yes.bind (Yes.some (Yes.some (Ob _ _)))
theorem Pu {l : PayList} (h : Vl l) {e n : Int} (he : 0 ≤ e ∧ e ≤ 10010000000) (hn : 0 ≤ n ∧ n ≤ 100) : 0 ≤ Dd l e n ∧ Dd l e n ≤ e := by
 obtain ⟨e1, e2, e3⟩ := Cw h he hn
 unfold Dd; omega
theorem s58P {l : PayList} {p : Th} (h : Vl l) (hp : Ye l p) (h1 : p.Extras.length ≤ 1000) {n : Int} (hn : 0 ≤ n ∧ n ≤ 100) : f31 ⟨l⟩ p n = some (Db l p n) := by
 obtain ⟨_, _, he⟩ := Bq h hp h1
 have hb := Pu h he hn
 refine Yes.eq ?_
 unfold f31
 refine Jp _ (s56P h hp h1) (Jp _ (s57P h he hn) (Yes.some ?_))
 rw [Qw (by omega) (by omega)]; rfl
theorem s16P {l : PayList} {p : Th} (h : Vl l) (hp : Ye l p) (h1 : p.Extras.length ≤ 1000) : f11 l p = some (Xf l p, Dd l (Xf l p) p.Faults, Db l p p.Faults, 0) := by
 obtain ⟨_, _, he⟩ := Bq h hp h1
 have hn := Wl.1 hp.2.2.2.1
 refine Yes.eq ?_
 unfold f11
 exact Jp _ (s55P h hp h1) (Yes.jn (Vp rfl (Jp _ (s56P h hp h1) (Jp _ (s57P h he hn) (Jp _ (s58P h hp h1 hn) (Yes.some rfl))))))
theorem Bd {α : Type} {Q : α → Prop} {c : Bool} {X Y : Option α} (hc : c = false) (h : Yes Y Q) : Yes (bif c then X else Y) Q := by rw [hc]; exact h
theorem Bl {α : Type} {Q : α → Prop} {c : Bool} {X Y : Option α} (hc : c = true) (h : Yes X Q) : Yes (bif c then X else Y) Q := by rw [hc]; exact h
theorem Wi {α β : Type} {Q : β → Prop} {x : Option α} {f : α → Option β} (a : α) (h : x = some a) (k : Yes (f a) Q) : Yes (x.bind f) Q := by rw [h]; exact k
theorem Ij {α : Type} {xs : List α} {i : Nat} (h : i < xs.length) : idx xs (i : Int) = some xs[i] := by unfold idx; rw [if_pos (Int.natCast_nonneg i)]; exact List.getElem?_eq_getElem h
theorem zrem {a b : Int} (ha : 0 ≤ a) (hb : 0 < b) : ∃ r, Yl a b = some r ∧ 0 ≤ r ∧ r < b := by
 unfold Yl
 rw [if_neg (by omega), Int.tmod_eq_emod_of_nonneg ha]
 exact ⟨_, rfl, Int.emod_nonneg _ (by omega), Int.emod_lt_of_pos _ hb⟩
theorem zw64 {n : Int} (h1 : -1000000000000 ≤ n) (h2 : n ≤ 1000000000000) : w64 n = n := Qw (by omega) (by omega)
theorem zu8 (c : UInt8) : 0 ≤ ((c.toNat : Nat) : Int) ∧ ((c.toNat : Nat) : Int) ≤ 255 := by have := c.toNat_lt; omega
theorem c19 (l : PayList) (h1 : l.Rates.length ≤ 1000) (h2 : l.Extras.length ≤ 1000) : f12 l = some l := by
 unfold f12
 exact Yes.eq (Yes.bind (Yes.apnd (by simp; omega) (by simp; omega) (Yes.bind (Yes.apnd (by simp; omega) (by simp; omega) (Yes.some (by simp))))))
section
theorem Np (v : Vector UInt8 4) : Yes (f6 v) fun l => Vl l ∧ l.Extras = [] := by
 have hv : ∀ (q : Nat) (h : q < 4), idx v.toList (q : Int) = some (v.toList[q]'(by simp; omega)) := fun q h => Ij (by simp; omega)
 unfold f6
 obtain ⟨a, ha, ha0, ha1⟩ := zrem (a := ((v.toList[1]'(by simp)).toNat : Int)) (b := 60) (by omega) (by omega)
 have b0 := zu8 (v.toList[0]'(by simp))
 have b1 := zu8 (v.toList[1]'(by simp))
 have b2 := zu8 (v.toList[2]'(by simp))
 have b3 := zu8 (v.toList[3]'(by simp))
 obtain ⟨b, hb, hb0, hb1⟩ := zrem (a := w64 ((4 : Int) * ((v.toList[1]'(by simp)).toNat : Int))) (b := 1001) (by rw [zw64 (by omega) (by omega)]; omega) (by omega)
 refine Wi _ (hv 0 (by omega)) (Wi _ (hv 1 (by omega)) (Wi _ ha (Wi _ (hv 0 (by omega)) (Wi _ (hv 2 (by omega)) (Wi _ (hv 3 (by omega)) (Wi _ (hv 1 (by omega)) (Wi _ hb (Yes.some ?_))))))))
 rw [zw64 (n := 1 + a) (by omega) (by omega), zw64 (n := ((v.toList[0]'(by simp)).toNat : Int) + ((v.toList[2]'(by simp)).toNat : Int)) (by omega) (by omega)]
 refine ⟨⟨⟨fun i hi => ?_, fun x hx => (by cases hx), by simp, Wl.2 ⟨by simp only; omega, by simp only; omega⟩, Wl.2 ⟨by simp only; omega, by simp only; omega⟩⟩, by simp, by simp⟩, rfl⟩
 have hi' : i < 2 := hi
 match i, hi' with
 | 0, _ => exact ⟨Wl.2 ⟨by simp, by simp⟩, Wl.2 ⟨by simp only [List.getElem_cons_zero]; omega, by simp only [List.getElem_cons_zero]; omega⟩, fun _ => rfl, fun h => absurd h (Nat.lt_irrefl _)⟩
 | 1, _ =>
  refine ⟨Wl.2 ⟨?_, ?_⟩, Wl.2 ⟨?_, ?_⟩, fun h => absurd h (by decide), fun _ => ?_⟩ <;> simp only [List.getElem_cons_succ, List.getElem_cons_zero, Nat.sub_self] <;> omega
end
end Go.Proofs.Ytlmibfohllgmeaa
