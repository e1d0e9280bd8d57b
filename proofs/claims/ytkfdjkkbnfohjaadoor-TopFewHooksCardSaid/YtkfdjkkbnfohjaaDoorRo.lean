/- A machine of plain data: whatever it says is so. No program is named here. -/
import Derived.Test.YtkfdjkkbnfohjaaDoorRn
namespace Go.Proofs.YtkfdjkkbnfohjaaDoor
noncomputable section
open Go.RowKit
section
variable {P : Program} {tab : Tab} {cx : Cx} {base : Nat} {ρ ρ' : Rn} {S : St} {w w' : World}
def Hyp (P : Program) (tab : Tab) (n : Nat) : Prop := ∀ cx tk S outs, go P tab n cx tk S = some outs → ∀ base ρ w, Sim cx base ρ S w → Free ρ S outs → Claim P n cx base S outs ρ w tk
theorem ok_o (htab : TabOk P tab) {n : Nat} (ih : Hyp P tab n) {o : Oper} {env : AEnv} {outs : List XO} (h : go P tab (n + 1) cx (.o o env) S = some outs) (hs : Sim cx base ρ S w) (hf : Free ρ S outs) : Claim P (n + 1) cx base S outs ρ w (.o o env) := by
 intro e K ho hK
 simp only [go_s, goB, goO, catA_eq] at h
 split at h
 ·rename_i r rs hst
  obtain ⟨hc1, _⟩ := catO_get h
  obtain ⟨r0, hr0, hok⟩ := astep_ok htab hs ho hst fun q hq b h1 h2 => by
   cases q with
   | v x S' =>
    obtain ⟨a, h3, h4⟩ := hc1 _ hq
    simp only [goA] at h3
    cases hb : Nat.ble S.n S'.n with
    | false => rw [hb] at h3; cases h3
    | true =>
     rw [hb] at h3; simp only [cond_true, Option.some.injEq] at h3; subst h3
     exact hf _ (h4 _ (List.mem_singleton.2 rfl)) b h1 h2
   | call f args => exact absurd h1 (by have : b < S.n := h2; omega)
   | rnd l args => exact absurd h1 (by have : b < S.n := h2; omega)
  obtain ⟨a, h3, h4⟩ := hc1 _ hr0
  cases r0 with
  | v x S' =>
   simp only [goA] at h3
   cases hb : Nat.ble S.n S'.n with
   | false => rw [hb] at h3; cases h3
   | true =>
    rw [hb] at h3; simp only [cond_true, Option.some.injEq] at h3; subst h3
    obtain ⟨v, w', ρ', hr, ev, sm, hv⟩ := hok
    have hk := hK _ (h4 _ (List.mem_singleton.2 rfl)) ρ' w' v ⟨ev, sm⟩ hv
    unfold doE
    rcases hr with hr | ⟨hr, rfl⟩ <;> rw [hr] <;> exact hk
  | call f args =>
   obtain ⟨vs, hr, hvs⟩ := hok
   have hcl := ih _ _ _ _ h3 base ρ w hs (fun q hq => hf q (h4 q hq)) vs hvs
   unfold doE
   rw [hr]
   refine Calls.mono hcl ?_
   rintro res w'' ⟨v, rfl, q, hq, ρ', haft, hv⟩
   exact ⟨v, rfl, hK q (h4 q hq) ρ' w'' v haft hv⟩
  | rnd l args =>
   obtain ⟨y, vs, hy, hvs, hr⟩ := hok
   obtain ⟨fn, tmps, asg, body, hyr, hrd⟩ := ih _ _ _ _ h3 base ρ w hs (fun q hq => hf q (h4 q hq)) y vs hy hvs
   unfold doE
   rw [hr, hyr]
   refine RoundIn.mono hrd ?_
   rintro res w'' ⟨v, rfl, q, hq, ρ', haft, hv⟩
   exact ⟨v, rfl, hK q (h4 q hq) ρ' w'' v haft hv⟩
 ·cases h
theorem ok_l {n : Nat} (ih : Hyp P tab n) {all rest : List Oper} {env : AEnv} {outs : List XO} (h : go P tab (n + 1) cx (.l all rest env) S = some outs) (hs : Sim cx base ρ S w) (hf : Free ρ S outs) : Claim P (n + 1) cx base S outs ρ w (.l all rest env) := by
 intro N ro e ds Q hN he hQ
 cases rest with
 | nil =>
  simp only [go_s, goB, goL, Option.some.injEq] at h; subst h
  exact EL_nil (hQ _ (List.mem_singleton.2 rfl) ρ w e ⟨Evo.refl hs.cut, hs⟩ he)
 | cons o rest =>
  simp only [List.all_cons, Bool.and_eq_true] at hN
  have hnd : ∀ c, o.op ≠ .defer c := fun c hc => by have := hN.1.2; rw [hc] at this; cases this
  simp only [go_s, goB, goL, goL1, fAV_eq, fSt_eq, fMp_eq] at h
  split at h
  ·rename_i hw
   obtain ⟨l1, h1, h2⟩ := bindO_get h
   have hpu : ∀ r ∈ l1, ∀ a, go P tab n cx (.l all rest (putE env o.dst r.v)) r.S = some a → Pu r.S.n a := fun r _ a ha => go_pu _ _ _ _ _ ha
   have hf1 := hf.fst h2 hpu
   have hp1 := go_pu _ _ _ _ _ h1
   refine EL_doE (want_ok hw he) hnd hN.1.1 (ih _ _ _ _ h1 base ρ w hs hf1 e _ (fun t _ => he t) fun r hr ρ1 w1 v haft hv => ?_)
   obtain ⟨a, h3, h4⟩ := (catO_get h2).1 r hr
   have hf2 := hf.snd h4 haft.1 (hp1.2 r hr)
   refine ih _ _ _ _ h3 base ρ1 w1 haft.2 hf2 N ro _ ds Q hN.2 ((he.mono haft.1.le haft.1.gro).put hv) fun q hq ρ2 w2 e2 haft2 he2 => ?_
   exact hQ q (h4 q hq) ρ2 w2 e2 (haft.trans hs haft2 (hf q (h4 q hq))) he2
  ·rename_i hw
   refine EL_pass (want_ok hw he) hN.1.1 (ih _ _ _ _ h base ρ w hs hf N ro _ ds Q hN.2 (he.put ?_) hQ)
   exact rfl
  ·cases h
theorem envL_ok : ∀ {args : List AV} {vs : List Value} {k : Nat} {env : AEnv} {e : Env}, All2 (VR ρ w) args vs → EnvR ρ w env e → EnvR ρ w (envL args k env) (fun t => if k ≤ t then (vs[t - k]?).getD (e t) else e t)
 | [], vs, k, env, e, h, he => by
  cases h
  intro t; simp only [List.getElem?_nil, Option.getD_none, ite_self]; exact he t
 | a :: l, vs, k, env, e, h, he => by
  cases h with
  | cons h1 h2 =>
   rename_i v vs'
   have := envL_ok (k := k + 1) h2 (he.set (t := k) h1)
   intro t
   have ht := this t
   by_cases h3 : k ≤ t
   ·simp only [h3, if_true]
    by_cases h4 : t = k
    ·subst h4
     have h5 : ¬ (t + 1 ≤ t) := by omega
     simp only [h5, if_false, upd_same] at ht
     simp only [Nat.sub_self, List.getElem?_cons_zero, Option.getD_some]
     exact ht
    ·have h5 : k + 1 ≤ t := by omega
     simp only [h5, if_true, upd_ne _ _ h4] at ht
     rw [show t - k = (t - (k + 1)) + 1 from by omega, List.getElem?_cons_succ]
     exact ht
   ·have h4 : t ≠ k := by omega
    have h5 : ¬ (k + 1 ≤ t) := by omega
    simp only [h5, if_false, upd_ne _ _ h4] at ht
    simp only [h3, if_false]; exact ht
theorem envAt_ok {args : List AV} {vs : List Value} (h : All2 (VR ρ w) args vs) : EnvR ρ w (envL args 0 Mp.nil) (envAt vs.toArray) := by
 have h0 : EnvR ρ w (Mp.nil : AEnv) (fun _ => undef) := fun t => by unfold AEnv.at; rw [Mp.get_nil]; exact rfl
 have := envL_ok (k := 0) h h0
 intro t
 have ht := this t
 simp only [Nat.zero_le, if_true, Nat.sub_zero] at ht
 unfold envAt
 rw [Array.getD_eq_getD_getElem?, List.getElem?_toArray]
 exact ht
def resF (tmps : Array Value) : ResultVar → Sem Value
 | .tmp t => pure (tmps.getD t undef)
 | .cell a t => do loadVar t (← asAddr (tmps.getD a undef))
theorem results_resF (fn : Func) (tmps : Array Value) : results fn tmps = (do let vs ← fn.results.mapM (resF tmps); pure (if h : vs.size = 1 then vs[0] else .tuple vs)) := by
 have h : resF tmps = fun x => (match x with | .tmp t => (pure (tmps.getD t undef) : Sem Value) | .cell a t => do loadVar t (← asAddr (tmps.getD a undef))) := by funext x; cases x <;> rfl
 rw [h]; rfl
theorem aRess_ok (hs : Sim cx base ρ S w) {env : AEnv} {tmps : Array Value} (he : ∀ t, VR ρ w (env.at t) (tmps.getD t undef)) : ∀ {rs : List ResultVar} {l : List (Bool × List C)}, aRess P cx S env rs = some l →
  ∃ vs : List Value, (rs.mapM (resF tmps)).run P w = .ok vs w ∧ All2 (V1 ρ w) l vs
 | [], l, h => by simp only [aRess, Option.some.injEq] at h; subst h; exact ⟨[], by simp, .nil⟩
 | r :: rs, l, h => by
  unfold aRess at h
  split at h
  ·rename_i p l' h1 h2
   simp only [Option.some.injEq] at h; subst h
   obtain ⟨vs, hvs, hr⟩ := aRess_ok hs he h2
   have hone : ∃ v, (resF tmps r).run P w = .ok v w ∧ V1 ρ w p v := by
    unfold aRes1 at h1
    split at h1
    ·rename_i t
     split at h1
     ·rename_i g cs hg
      simp only [Option.some.injEq] at h1; subst h1
      have := he t; rw [hg] at this
      exact ⟨_, rfl, this⟩
     ·cases h1
    ·rename_i a t
     split at h1
     ·rename_i b off hb
      split at h1
      ·rename_i g cs hl
       simp only [Option.some.injEq] at h1; subst h1
       have := he a; rw [hb] at this
       obtain ⟨y, hy, hv⟩ := V1.one this
       obtain ⟨y', v, hy', hrun, hvr⟩ := aLoadAt_ok (P := P) hs hl
       rw [hy] at hy'; injection hy' with hy'; subst hy'
       refine ⟨v, ?_, hvr⟩
       simp [resF, hv, asAddr, hrun]
      ·cases h1
     ·cases h1
   obtain ⟨v, hv1, hv2⟩ := hone
   refine ⟨v :: vs, ?_, .cons hv2 hr⟩
   rw [List.mapM_cons]
   simp only [Sem.run_bind, hv1, Result.andThen_ok, hvs, Sem.run_pure]
  ·cases h
theorem aRes_ok (hs : Sim cx base ρ S w) {env : AEnv} {fn : Func} {tmps : Array Value} {a : AV} (he : ∀ t, VR ρ w (env.at t) (tmps.getD t undef)) (h : aRes P cx S env fn.results.toList = some a) : ∃ v, (results fn tmps).run P w = .ok v w ∧ VR ρ w a v := by
 have key : ∀ l, aRess P cx S env fn.results.toList = some l → ∃ vs : List Value, (results fn tmps).run P w = .ok (if hh : vs.toArray.size = 1 then vs.toArray[0] else .tuple vs.toArray) w ∧ All2 (V1 ρ w) l vs := fun l hl => by
  obtain ⟨vs, h1, h2⟩ := aRess_ok (P := P) hs he hl
  refine ⟨vs, ?_, h2⟩
  rw [results_resF, Array.mapM_eq_mapM_toList]
  simp only [map_eq_pure_bind, Sem.run_bind, h1, Result.andThen_ok, Sem.run_pure]
 unfold aRes at h
 split at h
 ·rename_i hl
  simp only [Option.some.injEq] at h; subst h
  obtain ⟨vs, h1, h2⟩ := key _ hl
  cases h2
  exact ⟨_, h1, rfl⟩
 ·rename_i p hl
  simp only [Option.some.injEq] at h; subst h
  obtain ⟨vs, h1, h2⟩ := key _ hl
  cases h2 with
  | cons h3 h4 => cases h4; exact ⟨_, h1, h3⟩
 ·rename_i l hn0 hn1 hl
  simp only [Option.some.injEq] at h; subst h
  obtain ⟨vs, h1, h2⟩ := key _ hl
  refine ⟨_, h1, ?_⟩
  have hne : ¬ (vs.toArray.size = 1) := fun he => by
   have hlen := h2.len
   simp at he
   match l, hlen with
   | [p], _ => exact hn1 p rfl
   | [], hl => simp at hl; omega
   | _ :: _ :: _, hl => simp at hl; omega
  rw [dif_neg hne]
  exact ⟨vs, rfl, h2⟩
 ·cases h
theorem leaves_ok {fn : Func} {tmps : Array Value} {env : AEnv} {a : AV} {R : Ending → World → Prop} : ∀ {ms : List Nat} {ds : List Deferred} {S S2 : St} {w : World}, takeMs cx S ms = some S2 → Sim cx base ρ S w → MkR ρ ms ds → (∀ t, VR ρ w (env.at t) (tmps.getD t undef)) →
  aRes P cx S2 env fn.results.toList = some a → (∀ v w', Evo cx ρ S w ρ S2 w' → Sim cx base ρ S2 w' → VR ρ w' a v → R (.returned v) w') → LeavesInM Fence.wide 0 P fn tmps R ds .returning w
 | [], ds, S, S2, w, h, hs, hm, he, hr, hR => by
  simp only [takeMs, Option.some.injEq] at h; subst h
  cases hm
  obtain ⟨v, hv, hvr⟩ := aRes_ok hs he hr
  show LeavesIn _ _ _ _ _ _ [] _ _
  exact ⟨v, hv, hR v w (Evo.refl hs.cut) hs hvr⟩
 | d :: ms, ds, S, S2, w, h, hs, hm, he, hr, hR => by
  cases hm with
  | cons hd hm =>
   obtain ⟨y, hy, rfl⟩ := hd
   simp only [takeMs] at h
   split at h
   ·rename_i hl
    split at h
    ·rename_i S1 hput
     obtain ⟨y', hy', hh, hget, _⟩ := bval hs hl
     rw [hy] at hy'; injection hy' with hy'; subst hy'
     have hh' : w.heap[y.1]? = some (.deferred (some [])) := hh
     have hg : Gro w (w.putObj y.1 (.deferred none)) := gro_put hh' (fun _ _ _ h => by cases h)
     obtain ⟨ev, sm⟩ := put_ok hs hget hy hg (putObj_size _ _ _) (fun x hx => World.putObj_heap_other hx) (B := none) (fun _ h => by cases h) hput
     refine ⟨by simp, .inl ⟨y.1, _, rfl, run_takeDeferred hh', leaves_ok h sm hm (fun t => VR.mono (RnLe.refl _) hg (he t)) hr fun v w' ev' sm' hv => hR v w' (ev.trans hs.cut ev' fun b h1 h2 => ?_) sm' hv⟩⟩
     have := takeMs_n h
     have := put_n hput
     omega
    ·cases h
   ·cases h
end
end
end Go.Proofs.YtkfdjkkbnfohjaaDoor
