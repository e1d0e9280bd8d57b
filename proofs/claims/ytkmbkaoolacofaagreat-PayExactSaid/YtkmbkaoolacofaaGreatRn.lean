/- A machine of plain data: what it says of code, calls and rounds is so. No program is named here. -/
import Derived.Test.YtkmbkaoolacofaaGreatRm
namespace Go.Proofs.YtkmbkaoolacofaaGreat
noncomputable section
open Go.RowKit
section
variable {α : Type} {f : α → Option (List XO)}
theorem catO_get : ∀ {l : List α} {outs : List XO}, catO f l = some outs → (∀ o ∈ l, ∃ a, f o = some a ∧ ∀ r ∈ a, r ∈ outs) ∧ ∀ r ∈ outs, ∃ o ∈ l, ∃ a, f o = some a ∧ r ∈ a
 | [], outs, h => by simp only [catO, Option.some.injEq] at h; subst h; exact ⟨fun _ h => (by cases h), fun _ h => (by cases h)⟩
 | o :: l, outs, h => by
  unfold catO at h
  split at h
  ·rename_i a b h1 h2
   simp only [Option.some.injEq] at h; subst h
   obtain ⟨ih1, ih2⟩ := catO_get h2
   refine ⟨fun o' ho' => ?_, fun r hr => ?_⟩
   ·rcases List.mem_cons.1 ho' with rfl | ho'
    ·exact ⟨a, h1, fun r hr => List.mem_append_left _ hr⟩
    ·obtain ⟨c, h3, h4⟩ := ih1 o' ho'; exact ⟨c, h3, fun r hr => List.mem_append_right _ (h4 r hr)⟩
   ·rcases List.mem_append.1 hr with hr | hr
    ·exact ⟨o, by simp, a, h1, hr⟩
    ·obtain ⟨o', h3, c, h4, h5⟩ := ih2 r hr; exact ⟨o', by simp [h3], c, h4, h5⟩
  ·cases h
end
theorem bindO_get {x : Option (List XO)} {f : XO → Option (List XO)} {outs : List XO} (h : bindO x f = some outs) : ∃ l, x = some l ∧ catO f l = some outs := by
 cases x with
 | none => cases h
 | some l => exact ⟨l, rfl, by rw [← catA_eq]; exact h⟩
def Pu (m : Nat) (outs : List XO) : Prop := outs ≠ [] ∧ ∀ r ∈ outs, m ≤ r.S.n
theorem pu_cat {α : Type} {f : α → Option (List XO)} {l : List α} {outs : List XO} {m : Nat} (h : catO f l = some outs) (hl : l ≠ []) (hf : ∀ o ∈ l, ∀ a, f o = some a → Pu m a) : Pu m outs := by
 obtain ⟨h1, h2⟩ := catO_get h
 refine ⟨fun he => ?_, fun r hr => ?_⟩
 ·cases l with
  | nil => exact hl rfl
  | cons o l =>
   obtain ⟨a, h3, h4⟩ := h1 o (by simp)
   cases a with
   | nil => exact (hf o (by simp) _ h3).1 rfl
   | cons x xs => have := h4 x (by simp); rw [he] at this; cases this
 ·obtain ⟨o, h3, a, h4, h5⟩ := h2 r hr; exact (hf o h3 a h4).2 r h5
theorem Pu.one {m : Nat} {r : XO} (h : m ≤ r.S.n) : Pu m [r] := ⟨by simp, fun q hq => by rw [List.mem_singleton.1 hq]; exact h⟩
theorem pu_bind {x : Option (List XO)} {f : XO → Option (List XO)} {outs : List XO} {m : Nat} (h : bindO x f = some outs) (hx : ∀ l, x = some l → Pu m l) (hf : ∀ r a, m ≤ r.S.n → f r = some a → Pu r.S.n a) : Pu m outs := by
 obtain ⟨l, h1, h2⟩ := bindO_get h
 have hl := hx l h1
 refine pu_cat h2 hl.1 fun o ho a ha => ?_
 have := hf o a (hl.2 o ho) ha
 exact ⟨this.1, fun r hr => Nat.le_trans (hl.2 o ho) (this.2 r hr)⟩
section
variable {P : Program} {tab : Tab} {cx : Cx} {S S' : St}
theorem put_n {b : Nat} {B : Option Blk} (h : S.put cx b B = some S') : S'.n = S.n := (get_put h).2.1
theorem takeMs_n : ∀ {ms : List Nat} {S S' : St}, takeMs cx S ms = some S' → S'.n = S.n
 | [], S, S', h => by simp only [takeMs, Option.some.injEq] at h; subst h; rfl
 | d :: ms, S, S', h => by
  simp only [takeMs] at h
  split at h
  ·split at h
   ·rename_i S1 h1; rw [takeMs_n h, put_n h1]
   ·cases h
  ·cases h
theorem endLp_pu {l : Nat} {env : AEnv} {ms : List Nat} {a : List XO} (h : endLp cx l env ms S = some a) : Pu S.n a := by
 unfold endLp at h
 split at h
 ·split at h
  ·cases h
  ·split at h
   ·rename_i S2 h2
    have := put_n h2
    split at h <;> first
     | (cases h; done)
     | (simp only [Option.some.injEq] at h; subst h; exact Pu.one (Nat.le_of_eq this.symm))
   ·cases h
 ·cases h
theorem endRd_pu {l : Nat} {x : AX} {a : List XO} (h : endRd cx l x S = some a) : Pu S.n a := by
 unfold endRd at h
 split at h
 ·split at h
  ·rename_i S2 h2
   simp only [Option.some.injEq] at h; subst h
   exact Pu.one (Nat.le_of_eq (put_n h2).symm)
  ·cases h
 ·cases h
theorem busyLp_n {l : Nat} (h : busyLp cx l S = some S') : S'.n = S.n := by
 unfold busyLp at h
 split at h
 ·exact put_n h
 ·cases h
theorem drw_n {run : Cx → Oper → AEnv → St → Option (List XO)} {all : List Oper} {ms : List Nat} (hrun : ∀ cxk o env S q, run cxk o env S = some [q] → S.n ≤ q.S.n) : ∀ {l : List Oper} {rs : List Rc} {env : AEnv} {S : St} {p : AEnv × St}, drw run cx all ms l rs env S = some p → S.n ≤ p.2.n
 | [], rs, env, S, p, h => by simp only [drw, Option.some.injEq] at h; subst h; exact Nat.le_refl _
 | o :: l, rs, env, S, p, h => by
  simp only [drw] at h
  split at h
  ·split at h
   ·rename_i q hq
    have h1 := hrun _ _ _ _ _ hq
    have h2 := drw_n hrun h
    exact Nat.le_trans h1 h2
   ·cases h
  ·exact drw_n hrun h
  ·cases h
theorem go_pu : ∀ (n : Nat) (cx : Cx) (tk : Tk) (S : St) (outs : List XO), go P tab n cx tk S = some outs → Pu S.n outs := by
 intro n
 induction n with
 | zero => intro cx tk S outs h; rw [go_z] at h; cases h
 | succ n ih =>
  intro cx tk S outs h
  cases tk with
  | o o env =>
   simp only [go_s, goB, goO, catA_eq] at h
   split at h
   ·refine pu_cat h (by simp) fun r _ a ha => ?_
    cases r with
    | v x S' =>
     simp only [goA] at ha
     cases hb : Nat.ble S.n S'.n with
     | false => rw [hb] at ha; cases ha
     | true =>
      rw [hb] at ha; simp only [cond_true, Option.some.injEq] at ha; subst ha
      exact Pu.one (Nat.le_of_ble_eq_true hb)
    | call f args => exact ih _ _ _ _ ha
    | rnd l args => exact ih _ _ _ _ ha
   ·cases h
  | l all rest env =>
   cases rest with
   | nil => simp only [go_s, goB, goL, Option.some.injEq] at h; subst h; exact Pu.one (Nat.le_refl _)
   | cons o rest =>
    simp only [go_s, goB, goL, goL1, fAV_eq, fSt_eq, fMp_eq] at h
    split at h
    ·exact pu_bind h (fun l hl => ih _ _ _ _ hl) fun r a _ ha => ih _ _ _ _ ha
    ·exact ih _ _ _ _ h
    ·cases h
  | c inr N c env ms =>
   simp only [go_s, goB, goC, gSeq, gCond, gReg, gRng] at h
   split at h
   ·simp only [Option.some.injEq] at h; subst h; exact Pu.one (Nat.le_refl _)
   ·simp only [Option.some.injEq] at h; subst h; exact Pu.one (Nat.le_refl _)
   ·simp only [Option.some.injEq] at h; subst h; exact Pu.one (Nat.le_refl _)
   ·refine pu_bind h (fun l hl => ih _ _ _ _ hl) fun r a _ ha => ?_
    split at ha
    ·exact ih _ _ _ _ ha
    ·simp only [Option.some.injEq] at ha; subst ha; exact Pu.one (Nat.le_refl _)
   ·split at h
    ·exact ih _ _ _ _ h
    ·cases h
   ·refine pu_bind h (fun l hl => ih _ _ _ _ hl) fun r a _ ha => ?_
    simp only [Option.some.injEq] at ha; subst ha; exact Pu.one (Nat.le_refl _)
   ·exact ih _ _ _ _ h
   ·rename_i draw
    cases draw with
    | true =>
     simp only [cond_true] at h
     unfold drwX at h
     split at h
     ·rename_i p hp
      simp only [Option.some.injEq] at h; subst h
      exact Pu.one (drw_n (fun cxk o env S q hq => (ih _ _ _ _ hq).2 q (by simp)) hp)
     ·cases h
    | false =>
     simp only [cond_false] at h
     refine pu_bind h (fun l hl => ih _ _ _ _ hl) fun r a _ ha => ?_
     simp only [Option.some.injEq] at ha; subst ha; exact Pu.one (Nat.le_refl _)
   ·cases inr with
    | true => simp at h
    | false =>
     simp only [cond_false] at h
     split at h
     ·rename_i g caps _
      cases hg : (tab.get g).isSome with
      | false => rw [hg] at h; cases h
      | true =>
       rw [hg] at h; simp only [cond_true] at h
       refine pu_bind (m := S.n) h (fun l hl => ?_) fun r a _ ha => endLp_pu ha
       have := ih _ _ _ _ hl
       exact ⟨this.1, fun r hr => Nat.le_trans (by show S.n ≤ S.n + 1 + 1; omega) (this.2 r hr)⟩
     ·cases h
   ·cases h
  | lp inr N a env ms =>
   simp only [go_s, goB, goLp] at h
   refine pu_bind h (fun l hl => ih _ _ _ _ hl) fun r a _ ha => ?_
   split at ha
   ·exact ih _ _ _ _ ha
   ·simp only [Option.some.injEq] at ha; subst ha; exact Pu.one (Nat.le_refl _)
  | f f args =>
   simp only [go_s, goB, goF] at h
   split at h
   ·rename_i i _
    cases hb : Nat.ble args.length i.fn.ntmps with
    | false => rw [hb] at h; cases h
    | true =>
     rw [hb] at h; simp only [cond_true] at h
     refine pu_bind h (fun l hl => ih _ _ _ _ hl) fun r a _ ha => ?_
     split at ha
     ·cases ha
     ·split at ha
      ·rename_i S2 h2
       split at ha
       ·simp only [Option.some.injEq] at ha; subst ha; exact Pu.one (Nat.le_of_eq (takeMs_n h2).symm)
       ·cases ha
      ·cases ha
   ·cases h
  | r l args =>
   simp only [go_s, goB, goR] at h
   split at h
   ·rename_i N env ps asg body st pend d _
    cases hb : Nat.beq args.length ps.length with
    | false => rw [hb] at h; cases h
    | true =>
     rw [hb] at h; simp only [cond_true] at h
     refine pu_bind h (fun l hl => ih _ _ _ _ hl) fun r a _ ha => ?_
     split at ha
     ·split at ha
      ·rename_i S1 h1
       have := busyLp_n h1
       rw [← this]
       exact pu_bind ha (fun l hl => ih _ _ _ _ hl) fun q b _ hb => endRd_pu hb
      ·cases ha
     ·cases ha
   ·cases h
end

/-! ### What is claimed -/
def toX : AX → Exit
 | .nrm => .normal
 | .ret => .ret
 | .exit id => .exit id
def MkR (ρ : Rn) (ms : List Nat) (ds : List Deferred) : Prop := All2 (fun d (dd : Deferred) => ∃ y, ρ d = some y ∧ dd = { target := .collected y.1, args := #[] }) ms ds
theorem MkR.mono {ρ ρ' : Rn} {ms : List Nat} {ds : List Deferred} (hr : RnLe ρ ρ') (h : MkR ρ ms ds) : MkR ρ' ms ds := All2.mono (fun _ _ ⟨y, h1, h2⟩ => ⟨y, hr _ _ h1, h2⟩) h
def Aft (cx : Cx) (base : Nat) (ρ : Rn) (S : St) (w : World) (r : XO) (ρ' : Rn) (w' : World) : Prop := Evo cx ρ S w ρ' r.S w' ∧ Sim cx base ρ' r.S w'
def Free (ρ : Rn) (S : St) (outs : List XO) : Prop := ∀ r ∈ outs, ∀ b, S.n ≤ b → b < r.S.n → ρ b = none
def CallR (cx : Cx) (base : Nat) (ρ : Rn) (S : St) (w : World) (outs : List XO) (res : Ending) (w' : World) : Prop := ∃ v, res = .returned v ∧ ∃ r ∈ outs, ∃ ρ', Aft cx base ρ S w r ρ' w' ∧ VR ρ' w' r.v v
def Claim (P : Program) (n : Nat) (cx : Cx) (base : Nat) (S : St) (outs : List XO) (ρ : Rn) (w : World) : Tk → Prop
 | .c inr N c env ms => okC N c = true → ∀ ro e ds (Q : Post), (inr = false → ro = none) → EnvR ρ w env e → MkR ρ ms ds →
   (∀ r ∈ outs, ∀ ρ' w' e' ds', Aft cx base ρ S w r ρ' w' → EnvR ρ' w' r.env e' → MkR ρ' r.ms ds' → Q (toX r.x) e' ds' w') → E P N ro c Q e ds w
 | .lp inr N a env ms => okC N a = true → ∀ ro e ds (Q : Post), (inr = false → ro = none) → EnvR ρ w env e → MkR ρ ms ds →
   (∀ r ∈ outs, ∀ ρ' w' e' ds', Aft cx base ρ S w r ρ' w' → EnvR ρ' w' r.env e' → MkR ρ' r.ms ds' → Q (toX r.x) e' ds' w') → rounds P N ro a Q n e ds w
 | .l all rest env => ∀ N ro e ds (Q : Post), rest.all (fun o => okO N o.dst && nodef o.op) = true → EnvR ρ w env e →
   (∀ r ∈ outs, ∀ ρ' w' e', Aft cx base ρ S w r ρ' w' → EnvR ρ' w' r.env e' → Q .normal e' ds w') → EL P N ro all.toArray rest Q e ds w
 | .o o env => ∀ e (K : Value → World → Prop), OpsR ρ w env e o.op.operands.toList → (∀ r ∈ outs, ∀ ρ' w' v, Aft cx base ρ S w r ρ' w' → VR ρ' w' r.v v → K v w') → doE P o e w K
 | .f f args => ∀ vs : List Value, All2 (VR ρ w) args vs → Calls P f vs.toArray w (CallR cx base ρ S w outs)
 | .r l args => ∀ (y : Nat × Nat) (vs : List Value), ρ l = some y → All2 (VR ρ w) args vs → ∃ fn tmps asg body, (Instr.yield y.1 vs.toArray).run P w = .ok (.round y.1 fn tmps asg body) w ∧ RoundIn Fence.wide 0 P y.1 fn tmps asg body w (CallR cx base ρ S w outs)
section
variable {P : Program} {tab : Tab} {cx : Cx} {base : Nat} {ρ ρ' : Rn} {S : St} {w w' : World}
theorem EnvR.mono {ρ ρ' : Rn} {w w' : World} {env : AEnv} {e : Env} (hr : RnLe ρ ρ') (hg : Gro w w') (h : EnvR ρ w env e) : EnvR ρ' w' env e := fun t => VR.mono hr hg (h t)
theorem EnvR.set {env : AEnv} {e : Env} {t : Nat} {a : AV} {v : Value} (h : EnvR ρ w env e) (hv : VR ρ w a v) : EnvR ρ w (Mp.set env t (some a)) (upd e t v) := fun u => by
 unfold AEnv.at
 rw [Mp.get_set]
 by_cases hu : u = t
 ·subst hu; rw [if_pos rfl, upd_same]; exact hv
 ·rw [if_neg hu, upd_ne _ _ hu]; exact h u
theorem EnvR.put {env : AEnv} {e : Env} {d : Option Nat} {a : AV} {v : Value} (h : EnvR ρ w env e) (hv : VR ρ w a v) : EnvR ρ w (putE env d a) (updO e d v) := by
 cases d with
 | none => exact h
 | some d => exact h.set hv
theorem want_ok {ops : List Oper} {env : AEnv} {e : Env} {o : Oper} {b : Bool} (h : wantB ops env o = some b) (he : EnvR ρ w env e) : Wants ops.toArray e o.guard b := by
 unfold wantB at h
 split at h
 ·rename_i hg; simp only [Option.some.injEq] at h; subst h; rw [hg]; exact .plain
 ·rename_i j b0 hg
  rw [hg]
  split at h
  ·cases h
  ·rename_i d hd
   have hd' : (ops.toArray[j]?).bind (·.dst) = some d := by rw [List.getElem?_toArray]; exact hd
   have hv := he d
   split at h
   ·rename_i b' hb'
    rw [hb'] at hv
    have hv' := (V1.one hv).1
    simp only [Option.some.injEq] at h
    cases b with
    | true =>
     have : b' = b0 := by simpa using h
     subst this; exact .yes hd' hv'
    | false => exact .no hd' hv' h
   ·rename_i hb'
    rw [hb'] at hv
    simp only [Option.some.injEq] at h; subst h
    exact .off hd' hv
   ·cases h
theorem Free.fst {l outs : List XO} {f : XO → Option (List XO)} (hf : Free ρ S outs) (hc : catO f l = some outs) (hp : ∀ r ∈ l, ∀ a, f r = some a → Pu r.S.n a) : Free ρ S l := fun r hr b h1 h2 => by
 obtain ⟨a, h3, h4⟩ := (catO_get hc).1 r hr
 have := hp r hr a h3
 cases ha : a with
 | nil => exact absurd ha this.1
 | cons q qs =>
  have hq : q ∈ a := by rw [ha]; simp
  exact hf q (h4 q hq) b h1 (Nat.lt_of_lt_of_le h2 (this.2 q hq))
theorem Free.snd {outs a : List XO} {r : XO} (hf : Free ρ S outs) (hsub : ∀ q ∈ a, q ∈ outs) (ev : Evo cx ρ S w ρ' r.S w') (hn : S.n ≤ r.S.n) : Free ρ' r.S a := fun q hq b h1 h2 => by
 have h0 := hf q (hsub q hq) b (Nat.le_trans hn h1) h2
 cases h3 : ρ' b with
 | none => rfl
 | some y => have := ev.dom b h0 (by rw [h3]; simp); omega
theorem Aft.trans {r q : XO} {ρ'' : Rn} {w'' : World} (hs : Sim cx base ρ S w) (h : Aft cx base ρ S w r ρ' w') (k : Aft cx base ρ' r.S w' q ρ'' w'') (hf : ∀ b, S.n ≤ b → b < q.S.n → ρ b = none) : Aft cx base ρ S w q ρ'' w'' :=
 ⟨h.1.trans hs.cut k.1 hf, k.2⟩
end
end
end Go.Proofs.YtkmbkaoolacofaaGreat
