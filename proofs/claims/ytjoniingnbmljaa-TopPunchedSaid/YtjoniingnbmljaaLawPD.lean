/- Plain laws: cards that are mixed, and put in order. -/
import Derived.Test.YtjoniingnbmljaaLawPB
set_option maxRecDepth 8000
namespace Go.Proofs.Ytjoniingnbmljaa
open Go.RowKit
open Classical

def un (c : ChainCard) : ChainCard := { c with Turned := false }
theorem crd_un (rs : List Int) : (crd rs).map un = crd rs := by
 apply List.ext_getElem (by simp)
 intro i h1 h2
 have h3 : i < rs.length := by rw [crd_len] at h2; exact h2
 rw [List.getElem_map, crd_at h2 h3]; rfl
theorem crd_nodup (rs : List Int) : ((crd rs).map (·.Number)).Nodup := by
 refine List.pairwise_iff_getElem.2 fun i j hi hj hij => ?_
 have h1 : i < rs.length := by simpa [crd_len] using hi
 have h2 : j < rs.length := by simpa [crd_len] using hj
 rw [List.getElem_map, List.getElem_map, crd_at _ h1, crd_at _ h2]
 show ¬ (i : Int) = (j : Int)
 omega
theorem p57 (by_ : List UInt8) (hl : by_.length ≤ 9223372036854775807) {i : Int} (hi : 0 ≤ i) : Yes (f57 by_ i) (fun k => 0 ≤ k ∧ k ≤ 255) := by
 unfold f57
 refine Yes.jn (Yes.cond (fun _ => Yes.some (by omega)) (fun hc => ?_))
 have h0 : ¬ (by_.length : Int) = 0 := by simpa using hc
 obtain ⟨n, rfl⟩ := Int.eq_ofNat_of_zero_le hi
 have hlt : n % by_.length < by_.length := Nat.mod_lt _ (by omega)
 refine qbind _ (rem_nn (by omega) (by omega)) ?_
 rw [show (n : Int) % (by_.length : Int) = ((n % by_.length : Nat) : Int) from (Int.natCast_emod n by_.length).symm]
 refine qbind _ (qidx hlt) (Yes.some ?_)
 have := (by_[n % by_.length]).toNat_lt
 omega
theorem p56 {b : ChainBelt} {H : Nat} (hb : BOk H b) (by_ : List UInt8) (hl : by_.length ≤ 9223372036854775807) : Yes (f56 b by_) (fun r => r.Hooks = b.Hooks ∧ r.Cards.Perm b.Cards) := by
 have h2 := hb.2.1
 unfold f56
 refine qbind _ (c59 hb) (Yes.bind (Yes.mono (Q' := fun r => r.Hooks = b.Hooks ∧ r.Cards.Perm b.Cards) ?_ fun r hr => Yes.some hr))
 rw [w64_id (n := (b.Cards.length : Int) - 1) (by omega) (by omega)]
 refine Yes.lp (fun s => s.1.Hooks = b.Hooks ∧ s.1.Cards.Perm b.Cards ∧ 0 ≤ s.2 ∧ s.2 < b.Cards.length) (fun s => s.2.toNat) ⟨rfl, List.Perm.refl _, by show (0 : Int) ≤ (b.Cards.length : Int) - 1; omega, by show (b.Cards.length : Int) - 1 < _; omega⟩ (by show ((b.Cards.length : Int) - 1).toNat < _; omega) ?_
 rintro ⟨m, i⟩ k ⟨h3, h4, h5, h6⟩ hk
 simp only at h3 h4 h5 h6
 refine Yes.jn (Yes.cond (fun hc => ?_) (fun _ => Yes.some ⟨h3, h4⟩))
 have hc : i > 0 := of_decide_eq_true hc
 obtain ⟨n, rfl⟩ := Int.eq_ofNat_of_zero_le h5
 have hlen := h4.length_eq
 have hn : n < m.Cards.length := by omega
 refine Yes.bind (Yes.bind ((p57 by_ hl (by omega)).mono fun q hq => ?_))
 have hrem : rem64 q (w64 ((n : Int) + 1)) = some (q % ((n : Int) + 1)) := by
  rw [w64_id (by omega) (by omega)]; exact rem_nn hq.1 (by omega)
 have r1 := Int.emod_nonneg q (show (n : Int) + 1 ≠ 0 by omega)
 have r2 := Int.emod_lt_of_pos q (show (0 : Int) < (n : Int) + 1 by omega)
 refine qbind _ hrem ?_
 generalize q % ((n : Int) + 1) = z at r1 r2 ⊢
 obtain ⟨p, rfl⟩ := Int.eq_ofNat_of_zero_le r1
 have hp : p < m.Cards.length := by omega
 refine qbind _ (qidx hn) (qbind _ (qidx hp) (qbind _ (qidx (xs := m.Cards.set (Int.toNat (n : Int)) m.Cards[p]) (i := p) (by rw [List.length_set]; exact hp)) (Yes.some (hk _ ⟨h3, ?_, ?_, ?_⟩ ?_))))
 ·show ((m.Cards.set (Int.toNat (n : Int)) m.Cards[p]).set (Int.toNat (p : Int)) m.Cards[n]).Perm b.Cards
  rw [Int.toNat_natCast, Int.toNat_natCast]
  exact (List.set_set_perm hn hp).trans h4
 ·show 0 ≤ w64 ((n : Int) - 1)
  rw [w64_id (by omega) (by omega)]; omega
 ·show w64 ((n : Int) - 1) < _
  rw [w64_id (by omega) (by omega)]; omega
 ·show (w64 ((n : Int) - 1)).toNat < (n : Int).toNat
  rw [w64_id (by omega) (by omega)]; omega
theorem mset_new {κ ν : Type} [DecidableEq κ] {k : κ} {v : ν} : ∀ {m : List (κ × ν)}, k ∉ m.map (·.1) → mset m k v = m ++ [(k, v)]
 | [], _ => rfl
 | p :: m, h => by
  have h1 : ¬ p.1 = k := fun e => h (by rw [List.map_cons, e]; exact List.mem_cons_self ..)
  unfold mset
  rw [if_neg h1, mset_new fun hm => h (List.mem_cons_of_mem _ hm)]
  rfl
theorem mget_none {κ ν : Type} [DecidableEq κ] {k : κ} {m : List (κ × ν)} (h : k ∉ m.map (·.1)) : mget m k = none := by
 unfold mget
 rw [List.find?_eq_none.2 fun p hp => by
  have : ¬ p.1 = k := fun e => h (e ▸ List.mem_map_of_mem hp)
  simp [this]]
 rfl
theorem p129 {H : Nat} (hH : 1 ≤ H ∧ H ≤ 12) {b : ChainBelt} (hb : BOk H b) (hn : (b.Cards.map (·.Number)).Nodup) : Yes (f129 b) (fun r => r.2 = 0) := by
 have h2 := hb.2.1
 unfold f129
 refine qbind _ (c111 hH hb) (Yes.jn (qskip rfl ?_))
 refine Yes.bind (Yes.mono (Q' := fun m => m.map (·.1) = b.Cards.map (·.Number)) ?_ fun m hm => ?_)
 ·refine Yes.upto b.Cards.length (by omega) (fun i m => m.map (·.1) = (b.Cards.take i).map (·.Number)) rfl (fun i m k hi hI hk => ?_) (fun m k hI => qskip (decide_eq_false (by omega)) (Yes.some (by rw [hI, List.take_length])))
  refine qtake (decide_eq_true (by omega)) (Yes.bind (qbind _ (qidx hi) (Yes.some (hk _ ?_))))
  have hnew : b.Cards[i].Number ∉ m.map (·.1) := by
   rw [hI]
   have h3 : (((b.Cards.take i).map (·.Number)) ++ [b.Cards[i].Number]).Nodup := by
    rw [← List.map_singleton (f := fun c : ChainCard => c.Number), ← List.map_append, ← take_succ hi]
    rw [List.map_take]
    exact hn.sublist (List.take_sublist _ _)
   intro hmem
   exact (List.nodup_append.1 h3).2.2 _ hmem _ (List.mem_singleton.2 rfl) rfl
  rw [mset_new hnew, List.map_append, hI, take_succ hi, List.map_append]
  rfl
 ·have hneg : (-1 : Int) ∉ m.map (·.1) := by
   rw [hm]
   intro h
   obtain ⟨c, hc, he⟩ := List.mem_map.1 h
   have := (hb.2.2 c hc).1
   omega
  have hlen : m.length = b.Cards.length := by rw [← List.length_map (f := (·.1)), hm, List.length_map]
  refine Yes.jn (qskip (by rw [mget_none hneg]; rfl) (qskip (decide_eq_false (by omega)) (Yes.some rfl)))
theorem p209 {cs : List ChainCard} (h : cs.length ≤ 10) : f209 (fun σ cons s => f211 cs σ cons s) = some cs := by
 refine Yes.eq ?_
 unfold f209 f264
 refine Yes.bind (Yes.bind (Yes.bind (Yes.mono (Q' := fun r => r = cs) ?_ fun r hr => Yes.some (Yes.some (Yes.some hr)))))
 unfold f211
 refine Yes.upto cs.length (by omega) (fun i zs => zs = cs.take i) rfl (fun i zs k hi hI hk => ?_) (fun zs k hI => qskip (decide_eq_false (by omega)) (Yes.some (by rw [hI, List.take_length])))
 have hl : zs.length = i := by rw [hI]; simp; omega
 refine qtake (decide_eq_true (by omega)) (Yes.jn (qbind _ (qidx hi) (Yes.bind (Yes.bind (Yes.apnd (by rw [hl]; simp; omega) (by rw [hl]; simp; omega) (Yes.some (qskip rfl (hk _ ?_))))))))
 rw [hI, take_succ hi]
theorem len_tab : (List.range 11).all (fun n => (f266 (n : Int)).isSome) = true := by kernel_rfl
theorem p266 {n : Nat} (h : n ≤ 10) : ∃ r, f266 (n : Int) = some r := Option.isSome_iff_exists.1 (List.all_eq_true.1 len_tab n (List.mem_range.2 (by omega)))
theorem stab_perm {key : ChainCard → Int} {xs ys : List ChainCard} (h : Stab key xs ys) : xs.Perm ys := List.perm_iff_count.2 fun a => by
 have h1 : (xs.filter (fun x => key x == key a)).count a = xs.count a := List.count_filter (by simp)
 have h2 : (ys.filter (fun x => key x == key a)).count a = ys.count a := List.count_filter (by simp)
 rw [← h1, ← h2, h (key a)]
theorem cmp_ok (x y : ChainCard) : ∃ c, f132 x y = some c ∧ (c < 0 ↔ x.Number < y.Number) := by
 have h : Yes (f132 x y) (fun c => c < 0 ↔ x.Number < y.Number) := by
  unfold f132 f133 f212
  refine Yes.bind (qbind _ rfl (qbind _ rfl (Yes.jn (qskip (by simp) (Yes.jn (qskip (by simp) (Yes.jn (Yes.cond (fun hc => ?_) (fun hc => ?_)))))))))
  ·have := of_decide_eq_true hc
   exact Yes.some (Yes.some (by omega))
  ·have := of_decide_eq_false hc
   refine Yes.jn (Yes.cond (fun _ => Yes.some (Yes.some (by omega))) (fun _ => Yes.some (Yes.some (by omega))))
 exact h
theorem p210 {cs : List ChainCard} (h : cs.length ≤ 10) : Yes (f210 cs (fun a0 a1 => f132 a0 a1)) (fun r => r.Perm cs ∧ Srt (fun c : ChainCard => c.Number) r) := by
 unfold f210
 obtain ⟨lim, hlim⟩ := p266 h
 rw [wu_id (by omega) (by omega)]
 refine qbind _ hlim (Yes.bind (Yes.mono (Q' := fun r => r.Perm cs ∧ Srt (fun c : ChainCard => c.Number) r) ?_ fun r hr => Yes.some hr))
 obtain ⟨k, hk⟩ : ∃ k, big = k + 1 := ⟨big - 1, by have := big_pos 0 (by omega); omega⟩
 rw [hk]
 simp only [f265]
 refine Yes.lp (fun s => s = (cs, (0 : Int), (cs.length : Int), lim, true, true)) (fun _ => 0) rfl (by omega) ?_
 rintro _ k2 rfl _
 refine Yes.jn (qtake (decide_eq_true (by show w64 ((cs.length : Int) - 0) ≤ 12; rw [w64_id (by omega) (by omega)]; omega)) (Yes.bind (Yes.mono (s289 (key := fun c : ChainCard => c.Number) (xs := cs) (P := []) (X := cs) (S := []) (fun x y _ _ => cmp_ok x y) (by simp) (by simp) (by simp) (by omega)) fun o ho => ?_)))
 obtain ⟨Y, rfl, hst, hsr⟩ := ho
 rw [List.nil_append, List.append_nil]
 exact Yes.some ⟨(stab_perm hst).symm, hsr⟩
theorem p58 {H : Nat} (hH : 1 ≤ H ∧ H ≤ 12) {b : ChainBelt} (hb : BOk H b) {rs : List Int} (hp : (b.Cards.map un).Perm (crd rs)) : f58 b = some (⟨b.Hooks, crd rs⟩, 0) := by
 have h2 := hb.2.1
 have hnum : b.Cards.map (·.Number) = (b.Cards.map un).map (·.Number) := by rw [List.map_map]; rfl
 have hnd : (b.Cards.map (·.Number)).Nodup := by rw [hnum]; exact (hp.map _).nodup_iff.2 (crd_nodup rs)
 refine Yes.eq ?_
 unfold f58
 refine Yes.jn (Yes.bind ((p129 hH hb hnd).mono fun y hy => qskip (by rw [hy]; rfl) ?_))
 unfold f131 f130
 refine Yes.bind (qbind _ (p209 h2.2) (Yes.bind ((p210 h2.2).mono fun S hS => Yes.some ?_)))
 obtain ⟨s1, s2⟩ := hS
 have hl := s1.length_eq
 have hun : S.map un = crd rs := by
  refine List.Perm.eq_of_pairwise (le := fun a c : ChainCard => a.Number ≤ c.Number) (fun a c ha hc h3 h4 => ?_) ?_ ?_ ((s1.map un).trans hp)
  ·have ha : a ∈ crd rs := ((s1.map un).trans hp).mem_iff.1 ha
   obtain ⟨i, hi, rfl⟩ := List.getElem_of_mem ha
   obtain ⟨j, hj, rfl⟩ := List.getElem_of_mem hc
   have hi' : i < rs.length := by rw [crd_len] at hi; exact hi
   have hj' : j < rs.length := by rw [crd_len] at hj; exact hj
   rw [crd_at hi hi', crd_at hj hj'] at h3 h4
   simp only at h3 h4
   have : i = j := by omega
   subst this; rfl
  ·exact List.pairwise_map.2 s2
  ·refine List.pairwise_iff_getElem.2 fun i j hi hj hij => ?_
   have hi' : i < rs.length := by rw [crd_len] at hi; exact hi
   have hj' : j < rs.length := by rw [crd_len] at hj; exact hj
   rw [crd_at hi hi', crd_at hj hj']
   show (i : Int) ≤ (j : Int)
   omega
 refine Yes.bind (Yes.mono (Q' := fun m => m = ⟨b.Hooks, crd rs⟩) ?_ fun m hm => Yes.some (by rw [hm]))
 refine Yes.upto S.length (by omega) (fun i m => m.Hooks = b.Hooks ∧ m.Cards.length = S.length ∧ ∀ j (h1 : j < m.Cards.length) (h3 : j < S.length), m.Cards[j] = if j < i then un S[j] else S[j]) ⟨rfl, rfl, fun j h1 h3 => by rw [if_neg (by omega)]⟩ (fun i m k hi hI hk => ?_) (fun m k hI => ?_)
 ·obtain ⟨i1, i2, i3⟩ := hI
  have hm : i < m.Cards.length := by omega
  refine qtake (decide_eq_true (by show (i : Int) < (S.length : Int); omega)) (Yes.bind (qbind _ (qidx hm) (Yes.some (hk _ ⟨i1, by show (m.Cards.set _ _).length = _; rw [List.length_set]; exact i2, fun j h1 h3 => ?_⟩))))
  show (m.Cards.set i _)[j] = _
  rw [List.getElem_set]
  have e := i3 j (by omega) h3
  by_cases hij : i = j
  ·subst hij
   rw [if_pos rfl, if_pos (by omega), e, if_neg (by omega)]; rfl
  ·rw [if_neg hij, e]
   by_cases h4 : j < i
   ·rw [if_pos h4, if_pos (by omega)]
   ·rw [if_neg h4, if_neg (by omega)]
 ·obtain ⟨i1, i2, i3⟩ := hI
  refine qskip (decide_eq_false (by show ¬ (S.length : Int) < (S.length : Int); omega)) (Yes.some ?_)
  obtain ⟨mh, mc⟩ := m
  simp only at i1 i2 i3
  subst i1
  rw [← hun]
  congr 1
  apply List.ext_getElem (by simp [i2])
  intro j h1 h3
  have h4 : j < S.length := by omega
  rw [i3 j h1 h4, if_pos h4, List.getElem_map]
end Go.Proofs.Ytjoniingnbmljaa
/- TopPunched. -/
set_option maxRecDepth 8000
namespace Go.Proofs.Ytjoniingnbmljaa
open Go.RowKit
open Classical

theorem arm_tie : f41 = some true := by kernel_rfl
theorem crd_row (rs : List Int) : (crd rs).map (·.Row) = rs := by
 apply List.ext_getElem (by simp [crd_len])
 intro i h1 h2
 rw [List.getElem_map, crd_at _ h2]
theorem bok_of {H : Nat} {rs : List Int} (hl : 1 ≤ rs.length ∧ rs.length ≤ 10) (hr : ∀ r ∈ rs, 0 ≤ r ∧ r < ((2 ^ H : Nat) : Int)) {b : ChainBelt} (h1 : b.Hooks = H) (hp : (b.Cards.map un).Perm (crd rs)) : BOk H b := by
 have hlen : b.Cards.length = rs.length := by have := hp.length_eq; rw [List.length_map, crd_len] at this; exact this
 refine ⟨h1, by omega, fun c hc => ?_⟩
 have hm : un c ∈ crd rs := hp.mem_iff.1 (List.mem_map_of_mem hc)
 obtain ⟨i, hi, he⟩ := List.getElem_of_mem hm
 have hi' : i < rs.length := by rw [crd_len] at hi; exact hi
 rw [crd_at hi hi'] at he
 have e1 : c.Number = (i : Int) := congrArg ChainCard.Number he.symm
 have e2 : c.Row = rs[i] := congrArg ChainCard.Row he.symm
 rw [e1, e2]
 exact ⟨by omega, hr _ (List.getElem_mem hi')⟩
theorem s8 {A D E F : Prop} (x : Loom) (hh : A ∧ (x.Warps.length ≤ 9223372036854775807 ∧ D) ∧ (x.Rows.length ≤ 9223372036854775807 ∧ E) ∧ (x.Cards.length ≤ 9223372036854775807 ∧ F)) : f8 x = some true := by
 obtain ⟨_, ⟨hw, _⟩, ⟨hr, _⟩, ⟨hcd, _⟩⟩ := hh
 have hH := hk_rng x
 refine Yes.eq ?_
 unfold f8
 refine Yes.bind ((p54 x hw).mono fun h hh => Yes.bind ((p55 x hr).mono fun d hd => ?_))
 generalize hk x = H at hH hh hd
 obtain ⟨d1, d2, d3⟩ := id hd
 have hcl := crd_len d.Rows
 have hb0 : BOk H ⟨d.Hooks, crd d.Rows⟩ := bok_of d2 d3 d1 (by rw [crd_un])
 refine qbind _ (c31 hd) (qbind _ (p42 hH hd) (Yes.jn (Yes.bind (qskip rfl (qskip (by simp) (Yes.some (qskip (by simp [hcl]) ?_)))))))
 refine Yes.bind ((p56 hb0 x.Cards hcd).mono fun m hm => Yes.bind (Yes.mono (Q' := fun m => m.Hooks = d.Hooks ∧ (m.Cards.map un).Perm (crd d.Rows)) ?_ fun m hm => ?_))
 ·obtain ⟨m1, m2⟩ := hm
  refine Yes.upto d.Rows.length (by omega) (fun i m => m.Hooks = d.Hooks ∧ (m.Cards.map un).Perm (crd d.Rows)) ⟨m1, by have := m2.map un; rw [crd_un] at this; exact this⟩ (fun i m k hi hI hk => ?_) (fun m k hI => Yes.jn (qskip (decide_eq_false (by omega)) (Yes.some hI)))
  obtain ⟨i1, i2⟩ := hI
  have hl : i < m.Cards.length := by have := i2.length_eq; rw [List.length_map, crd_len] at this; omega
  refine Yes.jn (qtake (decide_eq_true (by omega)) (Yes.bind (Yes.bind ((p57 x.Cards hcd (i := w64 ((i : Int) + 5)) (by rw [w64_id (by omega) (by omega)]; omega)).mono fun q hq => qbind _ (rem_nn hq.1 (by omega)) (qbind _ (qidx hl) (Yes.some (hk _ ⟨i1, ?_⟩)))))))
  show ((m.Cards.set (Int.toNat (i : Int)) _).map un).Perm _
  rw [List.map_set, Int.toNat_natCast]
  have e : ∀ t, un { m.Cards[i] with Turned := t } = (m.Cards.map un)[i]'(by rw [List.length_map]; exact hl) := fun t => by rw [List.getElem_map]; rfl
  rw [e, List.set_getElem_self]
  exact i2
 obtain ⟨m1, m2⟩ := hm
 have hb : BOk H m := bok_of d2 d3 (m1.trans d1) m2
 have hml : m.Cards.length = d.Rows.length := by have := m2.length_eq; rw [List.length_map, crd_len] at this; exact this
 refine qbind _ (c59 hb) (qbind _ (p58 hH hb m2) (Yes.jn (Yes.bind (qskip rfl (Yes.some (qskip (by simp [hcl]) ?_))))))
 have hb1 : BOk H ⟨m.Hooks, crd d.Rows⟩ := by rw [m1]; exact hb0
 have hend : ∀ {X : Option Bool}, X = some true → Yes X (fun r => r = true) := fun h => Yes.of h rfl
 have ends : Yes ((f40).bind fun y507 => bif y507 then (f61).bind fun y510 => bif y510 then (f41).bind fun y513 => some (y513) else some (false) else some (false)) (fun r => r = true) :=
  qbind true rfl (qtake rfl (qbind true rfl (qtake rfl (qbind true arm_tie (Yes.some rfl)))))
 refine qbind _ (c30 hh) (qbind _ (c31 hd) (Yes.bind (Yes.mono (Q' := fun r => f39 h d = some r ∧ r.2 = 0 ∧ r.1.length = d.Rows.length) ?_ fun cl hcl2 => ?_)))
 ·obtain ⟨r, e1, e2⟩ := c39 hH hh hd
  exact ⟨r, e1, e1, e2⟩
 obtain ⟨w1, w2, w3⟩ := hcl2
 have hrep : f60 (d.Rows.length : Int) 1 = some (List.replicate (crd d.Rows).length 1) := by rw [c60 (by omega), hcl]
 refine qbind _ hrep (Yes.bind ((p45 hH hb1).mono fun v hv => ?_))
 obtain ⟨v1, v2, v3, v4⟩ := hv
 have hv : v.1 = d.Rows := by
  rw [v4 fun c hc => by
   obtain ⟨i, hi, rfl⟩ := List.getElem_of_mem hc
   have hi : i < (crd d.Rows).length := hi
   have hi' : i < d.Rows.length := by rw [crd_len] at hi; exact hi
   show (crd d.Rows)[i].Turned = false
   rw [crd_at hi hi']]
  exact crd_row _
 have hdd : (⟨d.Hooks, v.1⟩ : Design) = d := by rw [hv]
 refine qbind _ (c30 hh) (qbind cl (by rw [hdd]; exact w1) ?_)
 have hrep2 : f60 (d.Rows.length : Int) 1 = some (List.replicate m.Cards.length 1) := by rw [c60 (by omega), hml]
 refine qbind _ hrep2 (Yes.bind ((p45 hH hb).mono fun u hu => ?_))
 obtain ⟨u1, u2, u3, _⟩ := hu
 refine Yes.jn (Yes.bind (qskip (by rw [w2]; rfl) (qskip (by rw [v1]; rfl) (qskip (by rw [w2]; rfl) (qskip (by rw [u1]; rfl) (qbind true (by rw [hv]; exact c13 (by omega)) (qskip rfl (qbind true (c32 (by omega)) (Yes.some (qskip rfl ?_))))))))))
 have hdu : DOk H ⟨d.Hooks, u.1⟩ := ⟨d1, by show 1 ≤ u.1.length ∧ u.1.length ≤ 10; omega, u3⟩
 refine Yes.bind (Yes.mono (Q' := fun r => f39 h ⟨d.Hooks, u.1⟩ = some r ∧ r.2 = 0 ∧ r.1.length = u.1.length) ?_ fun cu hcu => ?_)
 ·obtain ⟨r, e1, e2⟩ := c39 hH hh hdu
  exact ⟨r, e1, e1, e2⟩
 obtain ⟨x1, x2, x3⟩ := hcu
 refine Yes.bind (Yes.mono (Q' := fun r => r = true) ?_ fun r hr => Yes.some hr)
 refine qtake (by rw [x2]; rfl) (qtake (beq_iff_eq.2 (by omega)) (Yes.bind ((c13b (xs := u.1) (ys := d.Rows) (by omega) (by omega)).mono fun t ht => Yes.cond (fun _ => ends) (fun hc => ?_))))
 have hc : t = true := by simpa using hc
 have hu : u.1 = d.Rows := ht hc
 have hcc : cu = cl := by
  have : (⟨d.Hooks, u.1⟩ : Design) = d := by rw [hu]
  rw [this, w1] at x1
  exact (Option.some.inj x1).symm
 rw [hcc]
 exact qbind true (c32 (by omega)) (qtake rfl ends)
end Go.Proofs.Ytjoniingnbmljaa
