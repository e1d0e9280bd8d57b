/- The statement that ranges over a function. No program is named here. -/
import Derived.Test.YtmebkoemfjlbcaaGreatDoorIter
import Derived.RangeFuncNested
namespace Go.Proofs.YtmebkoemfjlbcaaGreatDoor
open Go.RowKit

def Me (e : Env) (ps : List Tmp) (vs : List Value) : Env := (ps.zip vs).foldl (fun e pv => upd e pv.1 pv.2) e
theorem Cw {N : Nat} : ∀ (l : List (Tmp × Value)) {e : Env} {t : Array Value} {ds : List Deferred}, Wf N e { tmps := t, defers := ds } → (∀ p ∈ l, p.1 < N) →
  Wf N (l.foldl (fun e pv => upd e pv.1 pv.2) e) { tmps := l.foldl (fun t pv => t.setIfInBounds pv.1 pv.2) t, defers := [] }
 | [], _, _, _, h, _ => ⟨h.size, h.get⟩
 | (p, v) :: l, e, t, ds, h, hp => by
  have h1 := h.put (d := p) (Nat.ble_eq_true_of_le (hp (p, v) (by simp))) v
  exact Cw l h1 (fun q hq => hp q (by simp [hq]))
def Hk (rec : Loop) (js : List Code) (n : Nat) : Loop := { rec with state := if n = 0 then .ready else .done, pending := match n with | 0 => none | k + 1 => js[k]? }
@[reducible] def leftBy (js : List Code) (b : Bool) (n : Nat) : Exit → Prop
 | .normal => b = true ∧ n = 0
 | .ret => b = false ∧ ∃ k, n = k + 1 ∧ js[k]? = some .ret
 | .exit id => b = false ∧ ∃ k, n = k + 1 ∧ js[k]? = some (.exit id)
 | _ => False
@[reducible] def bodyQ {σ : Type} (i : Nat) (st : σ → Nat) (js : List Code) (R : Inv σ) (l : Nat) (rec : Loop) (gB : Gh) (wB : World) (b : Bool) (s' : σ) : Kx := fun x _ _ w1 =>
 ∃ g1, RFr gB wB g1 w1 ∧ R s' g1 w1 ∧ HB i g1 w1 l (.loop { rec with state := .busy }) ∧ leftBy js b (st s') x
theorem thnF {N : Nat} {K : Env → List Deferred → World → Prop} : Ux N (thn K (fun _ _ _ _ => False)) = Exit.then (fun a w => a.tmps.size = N ∧ K (B6 a) a.defers w) (fun _ _ _ => False) := by
 funext x a w
 cases x <;> simp [Ux, thn, Exit.then]
theorem Ln {i b : Nat} {g : Gh} {w : World} {ob ob' : Obj} (h : HB i g w b ob) (hc : ∀ j, w.cell? ⟨b, j, none⟩ = none) (hc' : ∀ j, (w.putObj b ob').cell? ⟨b, j, none⟩ = none) : Stp i g w g (w.putObj b ob') := by
 refine ⟨rfl, rfl, rfl, ⟨by simp, fun _ _ => Nat.le_refl _, fun k hk j _ => ?_⟩, fun k hk hn => World.putObj_heap_other (fun he => hn (by rw [he]; exact h.1)), fun _ _ _ => rfl, fun _ _ _ => rfl⟩
 by_cases hkb : k = b
 ·subst hkb; rw [hc, hc']
 ·simp only [World.cell?, World.putObj_heap_other hkb]
theorem Xy {i b : Nat} {g : Gh} {w : World} {r r' : Loop} (h : HB i g w b (.loop r)) : Stp i g w g (w.putObj b (.loop r')) ∧ HB i g (w.putObj b (.loop r')) b (.loop r') :=
 ⟨Ln h (fun j => by simp [World.cell?, h.2]) (fun j => by simp [World.cell?, World.putObj_heap_same (Gw h.2)]), h.1, World.putObj_heap_same (Gw h.2)⟩
theorem Jj (i : Nat) (g : Gh) (w : World) (o : Obj) : Ext g w { m := K6 g.m w.heap.size 0, o := K6 g.o w.heap.size i } (w.alloc o) :=
 ⟨(Below.refl _ w).alloc (Nat.le_refl _) _, fun b hb => Q1 _ _ (by omega), fun b hb => Q1 _ _ (by omega)⟩
theorem V5 (i : Nat) (g : Gh) (w : World) (o : Obj) : HB i { m := K6 g.m w.heap.size 0, o := K6 g.o w.heap.size i } (w.alloc o) w.heap.size o := ⟨Tj _ _ _, Wd _ _⟩
theorem Ext.ist {B : Nat} {g g' : Gh} {w w' : World} (h : Ext g w g' w') (hB : B ≤ w.heap.size) : Dq B g w g' w' :=
 ⟨h.stp, h.below.mono hB, fun b hb => h.m b (by omega), fun b hb => h.o b (by omega)⟩
theorem Xq {P : Program} {i l : Nat} {g : Gh} {w : World} {r : Loop} (h : HB i g w l (.loop r)) (hr : r.state = .ready) :
  ∃ w2, (Instr.beginRound l).run P w = .ok () w2 ∧ Stp i g w g w2 ∧ HB i g w2 l (.loop { r with state := .busy }) :=
 ⟨_, run_beginRound h.2 hr, (Xy h).1, (Xy h).2⟩
theorem MkF.push {g g' : Gh} {w w' : World} {ds : List Deferred} {D : Nat} (h0 : MkF g w ds) (h : MkF g' w' ds) (hD : w.heap.size ≤ D) (hb : HB 9 g' w' D (.deferred (some []))) : MkF g' w' ({ target := .collected D, args := #[] } :: ds) := by
 refine ⟨fun d hd => ?_, ?_⟩
 ·rcases List.mem_cons.1 hd with rfl | hd
  ·exact ⟨D, rfl, hb⟩
  ·exact h.mks d hd
 ·show (_ :: _).Nodup
  refine List.nodup_cons.2 ⟨fun hm => ?_, h.nd⟩
  obtain ⟨d, hd, he⟩ := List.mem_map.1 hm
  obtain ⟨D', rfl, h1⟩ := h0.mks d hd
  have hlt := Gw h1.2
  injection he with he
  omega

theorem Xk {σ α : Type} {P : Program} {N : Nat} {ro : Option Nat} {Q : Kx} {e : Env} {ds : List Deferred} {g : Gh} {w : World} {gop : Operand} {ps : List Tmp} {assign body : Code}
  {φ : It α} {ra : Rds α} {v : Value} {cons : U9 σ α} {s0 s1 : σ} (i : Nat) (hi : (Nat.beq i 0 || Nat.beq i 2 || Nat.beq i 9) = false) (st : σ → Nat) (js : List Code) (R : Inv σ)
  (hg : ev e gop = v) (hv : ItV P ra φ v g.m w) (hφ : φ σ cons s0 = some s1) (hc0 : ∀ s x r, cons s x = some r → st s = 0) (hst0 : st s0 = 0)
  (hra : ∀ m w x vs, ra m w x vs → vs.size = ps.length) (hps : (ps.all fun p => Nat.blt p N) = true)
  (hI : ∀ s g' w' g'' w'', Dq w.heap.size g' w' g'' w'' → R s g' w' → R s g'' w'') (hS : ∀ s g' w' g'' w'', Stp i g' w' g'' w'' → R s g' w' → R s g'' w'') (h0 : R s0 g w)
  (hro : ∀ l0, ro = some l0 → ∃ r0, w.heap[l0]? = some (.loop r0))
  (hbody : ∀ (l : Nat) (rec : Loop) (s : σ) (x : α) (b : Bool) (s' : σ) (gB : Gh) (wB : World) (vs : List Value), w.heap.size ≤ wB.heap.size → cons s x = some (b, s') → R s gB wB → HB i gB wB l (.loop rec) → rec.state = .ready → ra gB.m wB x vs.toArray →
   E P N (some l) assign (thn (fun e1 ds1 w1 => ∃ w2, (Instr.beginRound l).run P w1 = .ok () w2 ∧ E P N (some l) body (bodyQ i st js R l rec gB wB b s') e1 ds1 w2) (fun _ _ _ _ => False)) (Me e ps vs) [] wB)
  (hend : ∀ g' w' ds', w.heap.size ≤ w'.heap.size → R s1 g' w' → ((ro = none → ∃ D, ds' = { target := .collected D, args := #[] } :: ds ∧ w.heap.size ≤ D ∧ HB 9 g' w' D (.deferred (some []))) ∧ (ro ≠ none → ds' = ds)) →
   (st s1 = 0 → Q .normal e ds' w') ∧ (∀ k c, st s1 = k + 1 → js[k]? = some c → E P N ro c Q e ds' w')) : E P N ro (.rangeFunc gop ps.toArray assign body) Q e ds w := by
 intro a ha hd
 subst hd
 simp only [Bool.or_eq_false_iff] at hi
 obtain ⟨⟨hi0, hi2⟩, hi9⟩ := hi
 obtain ⟨f, first, caps, rfl, hent, hit⟩ := hv
 have hga : a.eval gop = .func (.func f) first caps := by rw [ha.eval]; exact hg
 refine wpIn_rangeFunc ?_
 intro fn hfn
 rw [Aa]
 -- the record, and at an outermost loop the block for deferred calls
 suffices hpre : ∃ (l : Nat) (mark : List Deferred) (w1 : World) (g1 : Gh) (rec : Loop), (Instr.enterLoop fn a.tmps ps.toArray assign body ro).run P w = .ok (l, mark) w1 ∧ Ext g w g1 w1 ∧ rec.fn = fn ∧ rec.tmps = a.tmps ∧ rec.params = ps.toArray ∧ rec.assign = assign ∧ rec.body = body ∧
   HB i g1 w1 l (.loop (Hk rec js 0)) ∧ ((ro = none → ∃ D, mark ++ a.defers = { target := .collected D, args := #[] } :: a.defers ∧ w.heap.size ≤ D ∧ D ≠ l ∧ HB 9 g1 w1 D (.deferred (some []))) ∧ (ro ≠ none → mark ++ a.defers = a.defers)) by
  obtain ⟨l, mark, w1, g1, rec, henter, hx, hr1, hr2, hr3, hr4, hr5, hrec, hmark⟩ := hpre
  have hcall : (invoke (.fn (.func f) caps) (first ++ #[.func (.yield l) #[] #[]])).run P w1 = .ok (.enter f (first ++ #[.func (.yield l) #[] #[]] ++ caps)) w1 := by
   simp only [invoke, hent (first ++ #[.func (.yield l) #[] #[]] ++ caps) w1]
  refine ⟨l, mark, w1, { target := .fn (.func f) caps, args := first ++ #[.func (.yield l) #[] #[]] }, w1, f, _, w1, henter, ?_, fun f' hf' => trivial, hcall, Jk ro, ?_⟩
  ·simp only [resolve, hga, Deferred.ofValue, Sem.run_pure]
   simp [Act.eval]
  -- the iterator's contract at our invariant
  obtain ⟨J, hJ⟩ : ∃ J : Inv σ, J = fun s gC w' => R s gC w' ∧ HB i gC w' l (.loop (Hk rec js (st s))) ∧ (ro = none → ∀ D, mark ++ a.defers = { target := .collected D, args := #[] } :: a.defers → HB 9 gC w' D (.deferred (some []))) ∧ w.heap.size ≤ w'.heap.size ∧ (st s = 0 ∨ ∃ k c, st s = k + 1 ∧ js[k]? = some c) := ⟨_, rfl⟩
  have hn9i : Nat.beq 9 i = false := by
   cases hb : Nat.beq 9 i with
   | false => rfl
   | true => have := Nat.eq_of_beq_eq_true hb; subst this; simp at hi9
  have hab : Cz w.heap.size J := by
   rw [hJ]
   rintro s g' w' g'' w'' hst ⟨k1, k2, k3, k4, k5⟩
   exact ⟨hI _ _ _ _ _ hst k1, k2.ist hst hi0, fun h D hD => (k3 h D hD).ist hst, Nat.le_trans k4 hst.st.ch.size, k5⟩
  have hro2 : V6 P l ra cons J := by
   rw [hJ]
   rintro s x b s' gB wB vs hcs ⟨k1, k2, k3, k4, _⟩ hrd
   have hs0 := hc0 s x _ hcs
   rw [hs0] at k2
   have hsz := hra _ _ _ _ hrd
   have hy := run_yield (P := P) (args := vs) k2.2 (by simp [Hk, hr3, hsz])
   refine ⟨_, _, _, _, hy, roundIn_of_wpIn (F := Fence.wide) trivial ?_⟩
   have hE := hbody l (Hk rec js 0) s x b s' gB wB vs.toList k4 hcs k1 k2 rfl (by simpa using hrd)
   have henv : Wf N (Me e ps vs.toList) { tmps := ((Hk rec js 0).params.zip vs).foldl (fun t pv => t.setIfInBounds pv.1 pv.2) (Hk rec js 0).tmps, defers := [] } := by
    have h1 : Wf N e { tmps := a.tmps, defers := a.defers } := ha
    have h2 := Cw (ps.zip vs.toList) h1 (fun p hp => by
     have := (List.of_mem_zip hp).1
     rw [List.all_eq_true] at hps
     exact Nat.le_of_ble_eq_true (hps _ this))
    have h3 : ((Hk rec js 0).params.zip vs) = (ps.zip vs.toList).toArray := by
     simp only [Hk, hr3]
     apply Array.ext'
     simp
    rw [h3]
    simp only [Hk, hr2]
    simpa [Me] using h2
   have hw := hE _ henv rfl
   rw [thnF] at hw
   have hfz : fz (some l) = Fence.wide.inRound l := rfl
   rw [hfz] at hw
   have hasg : (Hk rec js 0).assign = assign := hr4
   have hbdy : (Hk rec js 0).body = body := hr5
   rw [hasg, hbdy]
   refine wpIn_mono hw ?_
   rintro x1 a1 w1' hq
   cases x1 <;> simp only [Exit.then] at hq ⊢ <;> first | exact hq.elim | skip
   obtain ⟨hsz1, w2, hbr, hEb⟩ := hq
   refine ⟨w2, hbr, wpIn_mono (hEb a1 ⟨hsz1, fun _ => rfl⟩ rfl) ?_⟩
   rintro x2 a2 w3 ⟨_, g3, hrf, hR3, hrec3, hleft⟩
   have fin : ∀ (jump : Option Code), (jump = none → st s' = 0) → (∀ c, jump = some c → ∃ k, st s' = k + 1 ∧ js[k]? = some c) → b = jump.isNone →
     ∃ v w4, (Instr.endRound l jump).run P w3 = .ok v w4 ∧ Ending.returned v = .returned (.bool b) ∧ ∃ g', RFr gB wB g' w4 ∧ (R s' g' w4 ∧ HB i g' w4 l (.loop (Hk rec js (st s'))) ∧ (ro = none → ∀ D, mark ++ a.defers = { target := .collected D, args := #[] } :: a.defers → HB 9 g' w4 D (.deferred (some []))) ∧ w.heap.size ≤ w4.heap.size ∧ (st s' = 0 ∨ ∃ k c, st s' = k + 1 ∧ js[k]? = some c)) := by
    intro jump hj1 hj2 hb
    have hend := run_endRound (P := P) jump hrec3.2
    have hst := Xy (r' := { (Hk rec js 0 : Loop) with state := if jump.isNone then .ready else .done, pending := jump }) hrec3
    have hrecn : ({ (Hk rec js 0 : Loop) with state := if jump.isNone then .ready else .done, pending := jump } : Loop) = Hk rec js (st s') := by
     cases jump with
     | none => rw [hj1 rfl]; rfl
     | some c => obtain ⟨k, h1, h2⟩ := hj2 c rfl; rw [h1]; simp [Hk, h2]
    refine ⟨_, _, hend, by rw [hb], g3, hrf.stp hst.1 (by rw [hi0, hi9]; rfl), hS _ _ _ _ _ hst.1 hR3, by rw [← hrecn]; exact hst.2, fun h D hD => ?_, by simp; exact Nat.le_trans k4 hrf.ch.size, ?_⟩
    ·-- the block for deferred calls: it has the tag 9 and lies as it lay
     have h9 := k3 h D hD
     have : HB 9 g3 w3 D (.deferred (some [])) := ⟨(hrf.o D (Gw h9.2) (.inr h9.1)).trans h9.1, (hrf.block D (Gw h9.2) (.inr h9.1)).trans h9.2⟩
     exact this.stp hst.1 hn9i
    ·cases jump with
     | none => exact .inl (hj1 rfl)
     | some c => obtain ⟨k, h1, h2⟩ := hj2 c rfl; exact .inr ⟨k, c, h1, h2⟩
   cases x2 <;> simp only [leftBy] at hleft <;> first | exact hleft.elim | skip
   ·exact fin none (fun _ => hleft.2) (fun c h => by cases h) hleft.1
   ·exact fin (some (.exit _)) (fun h => by cases h) (fun c h => by injection h with h; subst h; exact hleft.2) hleft.1
   ·exact fin (some .ret) (fun h => by cases h) (fun c h => by injection h with h; subst h; exact hleft.2) hleft.1
  have hJ0 : J s0 g1 w1 := by
   rw [hJ]
   refine ⟨hI _ _ _ _ _ (hx.ist (Nat.le_refl _)) h0, by rw [hst0]; exact hrec, fun h D hD => ?_, hx.below.size, .inl hst0⟩
   obtain ⟨D', he, _, _, h9⟩ := hmark.1 h
   rw [hD] at he
   injection he with he _
   injection he with he _
   injection he with he
   subst he
   exact h9
  refine (Y4 (hit g1 w1 hx.ch σ cons s0 s1 hφ l w.heap.size J g1 rfl hx.below.size hab hro2 hJ0)).mono ?_
  rintro r w2 ⟨⟨v, rfl⟩, gC, hJ1⟩
  rw [hJ] at hJ1
  obtain ⟨k1, k2, k3, k4, k5⟩ := hJ1
  have hendl := run_endLoop (P := P) k2.2 (by simp only [Hk]; split <;> simp)
  have hst := Xy (r' := { Hk rec js (st s1) with state := .exhausted }) k2
  revert hendl
  have hst2 := hst.1
  clear hst
  generalize w2.putObj l _ = w5 at hst2
  intro hendl
  refine ⟨_, _, hendl, ?_⟩
  clear hendl
  have hfin := hend gC _ (mark ++ a.defers) (Nat.le_trans k4 hst2.ch.size) (hS _ _ _ _ _ hst2 k1) ⟨fun h => by
   obtain ⟨D, he, hD, _, _⟩ := hmark.1 h
   exact ⟨D, he, hD, (k3 h D he).stp hst2 hn9i⟩, hmark.2⟩
  cases hs1 : st s1 with
  | zero =>
   simp only [Hk]
   exact ⟨ha.size, by rw [show B6 { a with defers := mark ++ a.defers } = e from funext ha.get]; exact hfin.1 hs1⟩
  | succ k =>
   obtain ⟨k', c, hk', hc⟩ := k5.resolve_left (by omega)
   obtain rfl : k = k' := by omega
   simp only [Hk, hc]
   exact hfin.2 k c hs1 hc _ ⟨ha.size, ha.get⟩ rfl
 cases hro' : ro with
 | none =>
  have hx1 := Jj 9 g w (.deferred (some []))
  have hb1 := V5 9 g w (.deferred (some []))
  have hx2 := Jj i { m := K6 g.m w.heap.size 0, o := K6 g.o w.heap.size 9 } (w.alloc (.deferred (some []))) (.loop { state := .ready, pending := none, fn := fn, tmps := a.tmps, params := ps.toArray, assign := assign, body := body, defers := w.heap.size })
  have hb2 := V5 i { m := K6 g.m w.heap.size 0, o := K6 g.o w.heap.size 9 } (w.alloc (.deferred (some []))) (.loop { state := .ready, pending := none, fn := fn, tmps := a.tmps, params := ps.toArray, assign := assign, body := body, defers := w.heap.size })
  refine ⟨_, _, _, _, { state := .ready, pending := none, fn := fn, tmps := a.tmps, params := ps.toArray, assign := assign, body := body, defers := w.heap.size }, run_enterLoop_outer fn a.tmps ps.toArray assign body, hx1.trans hx2, rfl, rfl, rfl, rfl, rfl, ?_, fun _ => ⟨w.heap.size, rfl, Nat.le_refl _, by omega, hb1.ext hx2⟩, fun h => absurd rfl h⟩
  have e1 : w.heap.size + 1 = (w.alloc (.deferred (some []))).heap.size := (World.size_alloc ..).symm
  show HB _ _ _ (w.heap.size + 1) _
  rw [e1]
  exact hb2
 | some l0 =>
  obtain ⟨r0, hr0⟩ := hro l0 hro'
  exact ⟨_, _, _, _, { state := .ready, pending := none, fn := fn, tmps := a.tmps, params := ps.toArray, assign := assign, body := body, defers := r0.defers }, run_enterLoop_inner hr0 fn a.tmps ps.toArray assign body, Jj i g w _, rfl, rfl, rfl, rfl, rfl, V5 i g w _, ⟨fun h => (by cases h), fun _ => rfl⟩⟩
end Go.Proofs.YtmebkoemfjlbcaaGreatDoor
