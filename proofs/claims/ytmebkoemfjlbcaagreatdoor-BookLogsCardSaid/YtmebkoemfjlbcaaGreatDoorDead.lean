/- The dead rest of a chain of && or ||, told in one step. No program is named here. -/
import Derived.Test.YtmebkoemfjlbcaaGreatDoorMake
namespace Go.Proofs.YtmebkoemfjlbcaaGreatDoor
open Go.RowKit

def Da : Value → Bool
 | .tuple ⟨[]⟩ => true
 | _ => false
theorem Fh {v : Value} (h : Da v = true) : v = undef := by
 unfold Da at h
 split at h
 ·rfl
 ·cases h
def Jz (e : Env) : Op → Option Value
 | .move x => some (ev e x)
 | .pick x y z => match ev e x with
  | .bool true => some (ev e y)
  | .bool false => some (ev e z)
  | _ => none
 | _ => none
def S1 (ops : Array Oper) (e : Env) (o : Oper) : Option (Bool × Value) :=
 match o.guard with
 | none => (Jz e o.op).map fun v => (true, v)
 | some (j, b) => match (ops[j]?).bind (·.dst) with
  | none => none
  | some d => match e d with
   | .bool true => bif b then (Jz e o.op).map fun v => (true, v) else some (false, undef)
   | .bool false => bif b then some (false, undef) else (Jz e o.op).map fun v => (true, v)
   | v => bif Da v then some (false, undef) else none
theorem Ud {P : Program} {e : Env} {op : Op} {v : Value} (h : Jz e op = some v) : Pur P op e v ∧ Yz op = true := by
 unfold Jz at h
 split at h
 ·injection h with h; subst h; exact ⟨Zk rfl, rfl⟩
 ·split at h
  ·rename_i hx; injection h with h; subst h; exact ⟨Zl hx rfl, rfl⟩
  ·rename_i hx; injection h with h; subst h; exact ⟨Zl hx rfl, rfl⟩
  ·cases h
 ·cases h
theorem V9 {P : Program} {ops : Array Oper} {e : Env} {o : Oper} {t : Bool} {v : Value} (h : S1 ops e o = some (t, v)) :
  Wants ops e o.guard t ∧ (t = true → Pur P o.op e v ∧ Yz o.op = true) ∧ (t = false → v = undef) := by
 unfold S1 at h
 have go : ∀ {t v}, (Jz e o.op).map (fun v => (true, v)) = some (t, v) → t = true ∧ Jz e o.op = some v := fun {t v} h => by
  cases hv : Jz e o.op with
  | none => rw [hv] at h; cases h
  | some u => rw [hv] at h; simp at h; exact ⟨h.1.symm ▸ rfl, by rw [h.2]⟩
 split at h
 ·rename_i hg
  obtain ⟨rfl, hv⟩ := go h
  rw [hg]
  exact ⟨.plain, fun _ => Ud hv, by simp⟩
 ·rename_i j b hg
  rw [hg]
  split at h
  ·cases h
  ·rename_i d hd
   split at h
   ·rename_i he
    cases b with
    | true => obtain ⟨rfl, hv⟩ := go h; exact ⟨.yes hd he, fun _ => Ud hv, by simp⟩
    | false => simp at h; obtain ⟨rfl, rfl⟩ := h; exact ⟨.no hd he rfl, by simp, by simp⟩
   ·rename_i he
    cases b with
    | true => simp at h; obtain ⟨rfl, rfl⟩ := h; exact ⟨.no hd he rfl, by simp, by simp⟩
    | false => obtain ⟨rfl, hv⟩ := go h; exact ⟨.yes hd he, fun _ => Ud hv, by simp⟩
   ·rename_i hb1 hb2
    cases hu : Da (e d) with
    | true => rw [hu] at h; simp at h; obtain ⟨rfl, rfl⟩ := h; exact ⟨.off hd (Fh hu), by simp, by simp⟩
    | false => rw [hu] at h; cases h
def Vy (ops : Array Oper) (N : Nat) : Nat → List Oper → Env → Option (List Oper × Env)
 | 0, l, e => some (l, e)
 | n + 1, o :: l, e => match S1 ops e o with
  | some (_, v) => bif okO N o.dst then Vy ops N n l (Te e o.dst v) else none
  | none => none
 | _ + 1, [], _ => none
theorem Kk {P : Program} {N : Nat} {ro : Option Nat} {ops : Array Oper} {Q : Kx} {ds : List Deferred} {w : World} (n : Nat) : ∀ {l l' : List Oper} {e e' : Env}, Vy ops N n l e = some (l', e') → EL P N ro ops l' Q e' ds w → EL P N ro ops l Q e ds w := by
 induction n with
 | zero => intro l l' e e' h k; simp only [Vy, Option.some.injEq, Prod.mk.injEq] at h; obtain ⟨rfl, rfl⟩ := h; exact k
 | succ n ih =>
  intro l l' e e' h k
  cases l with
  | nil => simp [Vy] at h
  | cons o l =>
   unfold Vy at h
   split at h
   ·rename_i t v ho
    cases hN : okO N o.dst with
    | false => rw [hN] at h; cases h
    | true =>
     rw [hN] at h
     obtain ⟨h1, h2, h3⟩ := V9 (P := P) ho
     have := ih h k
     obtain ⟨d, op, ty, pos, af, gd⟩ := o
     cases t with
     | true => obtain ⟨hp, hn⟩ := h2 rfl; exact V8 hp h1 (by rw [Bool.and_eq_true]; exact ⟨hn, hN⟩) this
     | false => rw [h3 rfl] at this; exact La h1 hN this
   ·cases h
def Yg (ops : Array Oper) (Φ : Yw) : Nat → List Nat → (Nat → To) → Env → Option (List Nat × (Nat → To) × Env)
 | 0, l, F, e => some (l, F, e)
 | n + 1, i :: l, F, e => match ops[i]? with
  | none => none
  | some o => match S1 ops e o with
   | some (true, v) => match Φ i with
    | none => Yg ops Φ n l (Wj F i (fun g w => ∀ j ∈ Gl o, F j g w)) (Te e o.dst v)
    | some _ => none
   | some (false, _) => Yg ops Φ n l (Wj F i (fun _ _ => True)) (Te e o.dst undef)
   | none => none
 | _ + 1, [], _, _ => none
theorem Aq {SR : Kt} {P : Program} {ops : Array Oper} {C : To} {Φ : Yw} {Q : Env → To} (hnl : ∀ i, SR.late i = false) (n : Nat) : ∀ {l l' : List Nat} {F F' : Nat → To} {e e' : Env}, Yg ops Φ n l F e = some (l', F', e') → Lex SR P ops C Φ Q l' F' e' → Lex SR P ops C Φ Q l F e := by
 induction n with
 | zero => intro l l' F F' e e' h k; simp only [Yg, Option.some.injEq, Prod.mk.injEq] at h; obtain ⟨rfl, rfl, rfl⟩ := h; exact k
 | succ n ih =>
  intro l l' F F' e e' h k
  cases l with
  | nil => simp [Yg] at h
  | cons i l =>
   unfold Yg at h
   split at h
   ·cases h
   ·rename_i o ho
    split at h
    ·rename_i v hv
     split at h
     ·rename_i hφ
      obtain ⟨h1, h2, _⟩ := V9 (P := P) hv
      obtain ⟨d, op, ty, pos, af, gd⟩ := o
      exact Yx ho hφ h1 (fun _ _ _ => (h2 rfl).1) (ih h k) (hnl i)
     ·cases h
    ·rename_i hv
     obtain ⟨h1, _, _⟩ := V9 (P := P) hv
     obtain ⟨d, op, ty, pos, af, gd⟩ := o
     exact Ae ho h1 (ih h k)
    ·cases h
end Go.Proofs.YtmebkoemfjlbcaaGreatDoor
