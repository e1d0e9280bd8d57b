/- TopWrongRead. -/
import Derived.Test.YtkfdjkkbnfohjaaDoorLawRC
set_option maxRecDepth 8000
namespace Go.Proofs.YtkfdjkkbnfohjaaDoor
open Go.RowKit
open Classical

theorem arm_tie : f25 = some true := by kernel_rfl
theorem arm_eye : f32 = some true := by kernel_rfl
theorem c19 {xs : List Str} (h : xs.length ≤ 1000) : f19 xs = some xs := by
 refine Yes.eq ?_
 unfold f19
 exact Yes.bind (Yes.apnd (by simp; omega) (by simp; omega) (Yes.some rfl))
theorem g66 {H : Nat} {h : TieHarness} {E rows : List Int} (hH : 1 ≤ H ∧ H ≤ 12) (hk : HOk H h) (hE : E.length = h.Warps.length) (hr : 1 ≤ rows.length ∧ rows.length ≤ 10) : f66 h (wv E rows) = some 0 := by
 have h2 := hk.2.1
 refine Yes.eq ?_
 unfold f66
 refine Yes.jn (qbind _ (c105 hH hk) (qskip rfl ?_))
 rw [← hE]
 exact qbind _ (g103 (by omega) hr) (Yes.some rfl)
theorem g30t {H : Nat} {h : TieHarness} {E rows : List Int} (hH : 1 ≤ H ∧ H ≤ 12) (hk : HOk H h) (hE : E.length = h.Warps.length) (hr : 1 ≤ rows.length ∧ rows.length ≤ 10) {P : Int × Int × Int × Bool} (hP : f67 ⟨h⟩ (wv E rows) = some P) (ht : P.2.2.2 = true) :
  f30 h (wv E rows) = some (⟨0, []⟩, 9) ∧ f31 h (wv E rows) = some (P.1, P.2.1, P.2.2.1, 0) := by
 constructor
 ·refine Yes.eq ?_
  unfold f30
  exact Yes.jn (qbind _ (g66 hH hk hE hr) (qskip rfl (Yes.jn (qbind _ hP (qtake ht (Yes.some rfl))))))
 ·refine Yes.eq ?_
  unfold f31
  exact Yes.jn (qbind _ (g66 hH hk hE hr) (qskip rfl (qbind _ hP (Yes.jn (qskip (by rw [ht]; rfl) (Yes.some rfl))))))
theorem g30f {H : Nat} {h : TieHarness} {E rows : List Int} (hH : 1 ≤ H ∧ H ≤ 12) (hk : HOk H h) (hE : E.length = h.Warps.length) (hr : 1 ≤ rows.length ∧ rows.length ≤ 10) {P : Int × Int × Int × Bool} (hP : f67 ⟨h⟩ (wv E rows) = some P) (ht : P.2.2.2 = false)
  (hc : ∀ w w' (h1 : w < h.Warps.length) (h2 : w' < h.Warps.length) (h3 : w < E.length) (h4 : w' < E.length), h.Warps[w] = h.Warps[w'] → bl rows E[w] = bl rows E[w']) :
  (∃ D, f30 h (wv E rows) = some (D, 0) ∧ Dsg H E rows h D) ∧ f31 h (wv E rows) = some (0, 0, 0, 7) := by
 have h2 := hk.2.1
 constructor
 ·have : Yes (f30 h (wv E rows)) (fun r => r.2 = 0 ∧ Dsg H E rows h r.1) := by
   unfold f30
   exact Yes.jn (qbind _ (g66 hH hk hE hr) (qskip rfl (Yes.jn (qbind _ hP (qskip ht (Yes.bind ((g55 (by omega) hE.symm (by omega) hr.2 hk.2.2 hc).mono fun D hD => Yes.some ⟨rfl, hD⟩)))))))
  obtain ⟨⟨D, e⟩, h1, h2, h3⟩ := this
  simp only at h2
  subst h2
  exact ⟨D, h1, h3⟩
 ·refine Yes.eq ?_
  unfold f31
  exact Yes.jn (qbind _ (g66 hH hk hE hr) (qskip rfl (qbind _ hP (Yes.jn (qtake (by rw [ht]; rfl) (Yes.some rfl))))))
theorem eff_rng {H : Nat} {h : TieHarness} {dr : List Int} (hk : HOk H h) (hd : Drw h.Warps.length dr) : ∀ a ∈ eff h.Warps dr, a = 62 ∨ 0 ≤ a ∧ a ≤ (H : Int) - 1 := fun a ha => by
 obtain ⟨w, hw, rfl⟩ := List.getElem_of_mem ha
 rcases eff_at (by rw [eff_len] at hw; exact hw) hw hd with ⟨_, q⟩ | ⟨e, _, he, q⟩
 ·exact .inl q
 ·exact .inr (q ▸ hk.2.2 _ (List.getElem_mem he))
theorem few13 {H : Nat} {rows L : List Int} (hL : ∀ a ∈ L, a = 62 ∨ 0 ≤ a ∧ a ≤ (H : Int) - 1) : ((L.map (bl rows)).foldl ins []).length ≤ H + 1 := by
 refine nodup_img (fun k => if k = H then bl rows 62 else bl rows (k : Int)) (H + 1) _ (ded_nodup List.nodup_nil) fun c hc => ?_
 rcases ded_mem.1 hc with h | h
 ·cases h
 ·obtain ⟨k, hk, rfl⟩ := List.mem_map.1 h
  rcases hL k hk with rfl | ⟨h1, h2⟩
  ·exact ⟨H, by omega, if_pos rfl⟩
  ·refine ⟨k.toNat, by omega, ?_⟩
   show (if k.toNat = H then _ else bl rows ((k.toNat : Nat) : Int)) = _
   rw [if_neg (by omega), Int.toNat_of_nonneg h1]
theorem s5 {A D E F : Prop} (x : Loom) (hh : A ∧ (x.Warps.length ≤ 9223372036854775807 ∧ D) ∧ (x.Rows.length ≤ 9223372036854775807 ∧ E) ∧ (x.Cards.length ≤ 9223372036854775807 ∧ F)) : f5 x = some true := by
 obtain ⟨_, ⟨hw, _⟩, ⟨hr, _⟩, ⟨hcd, _⟩⟩ := hh
 have hH := hk_rng x
 refine Yes.eq ?_
 unfold f5
 refine Yes.bind ((p54 x hw).mono fun h hh => Yes.bind ((p55 x hr).mono fun d hd => ?_))
 generalize hk x = H at hH hh hd
 obtain ⟨d1, d2, d3⟩ := id hd
 obtain ⟨h1, h2, h3⟩ := id hh
 refine Yes.bind ((p26 h2 x.Cards hcd).mono fun dr hdr => ?_)
 have hdl := hdr.1
 have hEl : (eff h.Warps dr).length = h.Warps.length := by rw [eff_len]; exact hdl
 have hEr := eff_rng hh hdr
 have hwl : (wv (eff h.Warps dr) d.Rows).length = d.Rows.length := by simp [wv]
 have t19 : f19 (wv (eff h.Warps dr) d.Rows) = some (wv (eff h.Warps dr) d.Rows) := c19 (by rw [hwl]; omega)
 have h16 := c30 hh
 have ends : Yes ((f25).bind fun y => bif y then (f32).bind fun z => some z else some false) (fun r => r = true) := qbind true arm_tie (qtake rfl (qbind true arm_eye (Yes.some rfl)))
 refine qbind _ h16 (qbind _ (c11 dr (by omega)) (qbind _ (c31 hd) (qbind _ (g27 hH hh hd hdr) (qbind _ h16 (Yes.bind ((g29 hH hh hdr).mono fun wl hwl2 => ?_))))))
 obtain ⟨l1, l2, l3⟩ := hwl2
 obtain ⟨P, hP, hPp⟩ := g67 (rows := d.Rows) hh hEl d2.2
 have hK : ∀ L : List Int, (∀ a ∈ L, a ∈ eff h.Warps dr) → ((L.map (bl d.Rows)).foldl ins []).length ≤ 13 := fun L hL => by
  have := few13 (H := H) (rows := d.Rows) (L := L) fun a ha => hEr a (hL a ha)
  omega
 have hKH := few13 (H := H) (rows := d.Rows) (L := eff h.Warps dr) hEr
 have hpos : 1 ≤ (((eff h.Warps dr).map (bl d.Rows)).foldl ins []).length := by
  have h0 : 0 < (eff h.Warps dr).length := by omega
  exact List.length_pos_of_mem (ded_mem.2 (.inr (List.mem_map_of_mem (List.getElem_mem h0))))
 -- the map of what is wrong
 have wrong : ∀ {Q : Bool → Prop} {G : List (Int × Bool) → Option Bool}, (∀ m, (∀ a ∈ wl.1, mget m a = some true) → Yes (G m) Q) → Yes (Option.bind (α := List (Int × Bool)) (
   lp (σ := (List (Int × Bool)) × Int) (fun k173 (m20_174, s21_174) =>
    jn (σ := Unit) (fun _ =>
     Option.bind (α := (List (Int × Bool))) (
      (idx (wl.1) s21_174).bind fun y183 =>
      some ((mset m20_174 y183 true))
      ) fun m20_187 =>
     k173 (m20_187, (w64 (s21_174 + (1 : Int))))
     ) fun k176 =>
    bif (decide (s21_174 < ((wl.1).length : Int))) then
     k176 ()
    else
     some (m20_174)
    ) big (([] : List (Int × Bool)), (0 : Int))
   ) G) Q := fun {Q G} hG => by
  refine Yes.bind (Yes.mono (Q' := fun m => ∀ a ∈ wl.1, mget m a = some true) ?_ hG)
  refine Yes.upto wl.1.length (by omega) (fun i m => ∀ a ∈ wl.1.take i, mget m a = some true) (by simp) (fun i m k hi hI hk => ?_) (fun m k hI => Yes.jn (qskip (decide_eq_false (by omega)) (Yes.some (by rw [List.take_length] at hI; exact hI))))
  refine Yes.jn (qtake (decide_eq_true (by omega)) (Yes.bind (qbind _ (qidx hi) (Yes.some (hk _ fun a ha => ?_)))))
  rw [mget_mset]
  rw [take_succ hi] at ha
  rcases List.mem_append.1 ha with ha | ha
  ·by_cases he : a = wl.1[i]
   ·rw [if_pos he]
   ·rw [if_neg he]; exact hI a ha
  ·rw [if_pos (List.mem_singleton.1 ha)]
 rcases hPp with ⟨pt, p, w, f, e1, e2, e3, hfw, hp, a1, a2, a3, a4, hsame, hne⟩ | ⟨pt, hcons⟩
 ·obtain ⟨t30, t31⟩ := g30t hH hh hEl d2 hP pt
  refine qbind _ h16 (qbind _ t19 (qbind _ t30 (qbind _ h16 (qbind _ t19 (qbind _ t31 (qbind _ t19 (Yes.bind ((g18 (by omega) d2 hK).mono fun r hr => Yes.jn ?_))))))))
  obtain ⟨r1, r2⟩ := hr
  refine Yes.bind (qskip rfl (qskip (by rw [l1]; rfl) (qskip (by rw [r1]; rfl) (qskip (decide_eq_false (by rw [h1, w64_id (by omega) (by omega)]; omega)) (qskip (decide_eq_false (by omega)) (qskip rfl (qtake rfl (Yes.some (qskip rfl (wrong fun m hm => Yes.jn (qtake rfl ?_)))))))))))
  refine Yes.bind (Yes.mono (Q' := fun r => r = true) ?_ fun r hr => Yes.some hr)
  refine qtake rfl (qtake (decide_eq_true (by show P.1 ≥ 0; omega)) (qtake (decide_eq_true (by show P.1 < ((wv (eff h.Warps dr) d.Rows).length : Int); omega)) (qtake (decide_eq_true (by show P.2.1 > P.2.2.1; omega)) (qtake (decide_eq_true (by show P.2.2.1 ≥ 0; omega)) (qtake (decide_eq_true (by show P.2.1 < (h.Warps.length : Int); omega)) (Yes.cond (fun _ => ends) (fun hf => qtake ?_ ends)))))))
  have hf : (mget m P.2.1).getD false = false := hf
  have hwn : ¬ (w : Int) ∈ wl.1 := fun hin => by
   have := hm _ hin
   rw [← e2] at this
   rw [this] at hf
   cases hf
  have hfin : (f : Int) ∈ wl.1 := by
   refine Classical.byContradiction fun hno => hne ?_
   rw [l3 w a1 a3 hwn, l3 f a2 a4 hno, hsame]
  show (mget m P.2.2.1).getD false = true
  rw [e3, hm _ hfin]; rfl
 ·obtain ⟨⟨Dd, t30, hD⟩, t31⟩ := g30f hH hh hEl d2 hP pt hcons
  refine qbind _ h16 (qbind _ t19 (qbind _ t30 (qbind _ h16 (qbind _ t19 (qbind _ t31 (qbind _ t19 (Yes.bind ((g18 (by omega) d2 hK).mono fun r hr => Yes.jn ?_))))))))
  obtain ⟨r1, r2⟩ := hr
  have hDk : DOk H Dd := ⟨by rw [hD.hooks]; exact h1, by have := hD.len; omega, fun a ha => by
   obtain ⟨p, hp1, rfl⟩ := List.getElem_of_mem ha
   exact (hD.row p hp1 (by have := hD.len; omega)).1⟩
  have hagain : wv h.Warps Dd.Rows = wv (eff h.Warps dr) d.Rows := by
   unfold wv
   apply List.ext_getElem (by simp [hD.len])
   intro p q1 q2
   have p1 : p < Dd.Rows.length := by simpa using q1
   have p2 : p < d.Rows.length := by simpa using q2
   rw [List.getElem_map, List.getElem_map]
   unfold ln
   congr 1
   apply List.ext_getElem (by simp [hEl])
   intro w w1 w2
   have w3 : w < h.Warps.length := by simpa using w1
   rw [List.getElem_map, List.getElem_map, (hD.row p p1 p2).2 w w3 (by omega)]
  refine Yes.bind (qskip rfl (qskip (by rw [l1]; rfl) (qskip (by rw [r1]; rfl) (qskip (decide_eq_false (by rw [h1, w64_id (by omega) (by omega)]; omega)) (qskip (decide_eq_false (by omega)) (qskip rfl (qskip rfl (Yes.some (qskip rfl (wrong fun m hm => Yes.jn (qskip rfl ?_)))))))))))
  refine qbind _ h16 (qbind _ (c31 hDk) (qbind _ (by rw [g15 hH hh hDk, hagain]) (Yes.jn (Yes.bind (qskip rfl (qbind true (c32 (by rw [hwl]; omega)) (Yes.some (qskip rfl (Yes.jn ?_)))))))))
  refine Yes.cond (fun hz => ?_) (fun _ => Yes.bind (Yes.mono (Q' := fun r => r = true) ends fun r hr => Yes.some hr))
  have hz : wl.1 = [] := by have : (wl.1.length : Int) = 0 := beq_iff_eq.1 hz; exact List.eq_nil_of_length_eq_zero (by omega)
  have hEW : eff h.Warps dr = h.Warps := by
   apply List.ext_getElem hEl
   intro w w1 w2
   exact l3 w w2 w1 (by rw [hz]; simp)
  refine qbind _ (g15 hH hh hd) (Yes.bind (Yes.mono (Q' := fun r => r = true) (qtake rfl (qbind true ?_ (qtake rfl ends))) fun r hr => Yes.some hr))
  rw [hEW]
  exact c32 (by simp [wv]; omega)
end Go.Proofs.YtkfdjkkbnfohjaaDoor
