/- Arrays. No program is named here. -/
import Derived.Test.YtmebkoemfjlbcaaGreatDoorOwn
import Derived.ChangeKeysEq
namespace Go.Proofs.YtmebkoemfjlbcaaGreatDoor
open Go.RowKit

theorem Rp {α : Type} {n : Nat} {x : Vector α n} {i : Int} {a : α} (hi : idx x.toList i = some a) : 0 ≤ i ∧ ∃ h : i.toNat < n, x[i.toNat] = a := by
 obtain ⟨h0, hi'⟩ := Wr hi
 obtain ⟨hlt, ha⟩ := List.getElem?_eq_some_iff.1 hi'
 refine ⟨h0, by simpa using hlt, ?_⟩
 simpa using ha
section
variable {P : Program} {e : Env} {w : World} {x y : Operand}
theorem J2 {α : Type} [GoT α] {n : Nat} {m : Nat → Nat} {p : Value} {v : Vector α n} {i : Int} {a : α} (hp : PT m w v p) (hi : idx v.toList i = some a) : PT m w a (Gc p (i.toNat * GoT.k α)) := by
 obtain ⟨b, o, cs, rfl, hb, hm, hr, hc⟩ := hp
 obtain ⟨h0, hlt, rfl⟩ := Rp hi
 have hk : i.toNat * GoT.k α + GoT.k α ≤ n * GoT.k α := by
  have : (i.toNat + 1) * GoT.k α ≤ n * GoT.k α := Nat.mul_le_mul_right _ hlt
  rw [Nat.add_mul, Nat.one_mul] at this; exact this
 have hm' : o + n * GoT.k α ≤ m b := hm
 refine ⟨b, o + i.toNat * GoT.k α, _, rfl, hb, by omega, hr.2 i.toNat hlt, fun j c hj => ?_⟩
 rw [List.getElem?_take] at hj
 split at hj
 ·rw [List.getElem?_drop] at hj
  rw [Nat.add_assoc]
  exact hc _ _ hj
 ·cases hj
theorem Qw {α : Type} [GoT α] {n : Nat} {t et : TypeId} {p : Value} {v : Vector α n} {k : IntKind} {i : Int} {a : α} (ht : P.underlying t = some (.array n et)) (hs : ∀ w, (sizeOf et).run P w = .ok (GoT.k α) w)
  (hx : ev e x = p) (hp : ∃ b o, p = .pointer (some ⟨b, o, none⟩)) (hy : ev e y = .int k i) (hi : idx v.toList i = some a) : Pur P (.indexAddr t x y) e (Gc p (i.toNat * GoT.k α)) := fun _ _ _ _ _ w' => by
 obtain ⟨b, o, rfl⟩ := hp
 obtain ⟨h0, hlt, _⟩ := Rp hi
 have hl : i < (n : Int) := by omega
 simp [execOp, hx, hy, Instr.indexAt, Instr.sureAddr, asIntOf, Sem.run_bind, run_underlying ht, h0, hl, hs, Wb, Gc]
theorem Md {t et : TypeId} {n s : Nat} {zc : List Value} {xs : List (Nat × Operand)} {vs : List (Nat × Value)} (ch : List (List Value)) (ht : P.underlying t = some (.array n et))
  (hl : ((P.info? t).bind (·.zero)).map (·.cells.toList) = some zc) (hs : (P.info? et).map (·.size) = some s) (hz : zc = ch.flatten) (hc : ∀ c ∈ ch, c.length = s) (hps : Parts e xs vs) (hfit : Si ch vs) :
  Pur P (.build t xs.toArray) e (.agg (Qf ch vs).flatten.toArray) := fun _ _ _ _ _ w => by
 have hb : P.built t vs = some (Qf ch vs).flatten.toArray := by
  unfold Program.built
  cases hi : P.info? t with
  | none => rw [hi] at hl; cases hl
  | some it =>
   rw [hi] at hl
   simp only [Option.bind_some] at hl
   cases hzz : it.zero with
   | none => rw [hzz] at hl; cases hl
   | some z =>
    rw [hzz] at hl
    cases hie : P.info? et with
    | none => rw [hie] at hs; cases hs
    | some ie =>
     rw [hie] at hs
     simp only [Option.map_some, Option.some.injEq] at hs hl
     simp only [ht, hzz, hie, hs]
     have h3 : z.cells = ch.flatten.toArray := by rw [← hz, ← hl]
     rw [h3]
     refine V0 vs ch (fun i c hic => ?_) hfit
     rw [Hy (s := s) ch 0 i c hc hic, Nat.zero_add]
 have hrun := run_build (P := P) w t vs.toArray _ (by simpa using hb)
 simp only [execOp, List.map_toArray, hps.map, Sem.run_bind, hrun, Result.andThen_ok, Sem.run_pure]
theorem Yu {α : Type} [GoT α] {n : Nat} {m : Nat → Nat} {xs : List α} {cs : List Value} (h : Tn m w xs cs) (hn : xs.toArray.size = n) : GoT.rep m w (⟨xs.toArray, hn⟩ : Vector α n) cs := by
 have hn' : xs.length = n := by simpa using hn
 refine ⟨by rw [h.len, hn'], fun i hi => ?_⟩
 have hg : xs[i]? = some xs[i] := List.getElem?_eq_getElem (by omega)
 obtain ⟨c, hr, hc⟩ := h.get hg
 have hl := GoT.len hr
 have hcs := h.len
 have hk : i * GoT.k α + GoT.k α ≤ xs.length * GoT.k α := by
  have : (i + 1) * GoT.k α ≤ xs.length * GoT.k α := Nat.mul_le_mul_right _ (by omega)
  rw [Nat.add_mul, Nat.one_mul] at this; exact this
 have he : (cs.drop (i * GoT.k α)).take (GoT.k α) = c := by
  apply List.ext_getElem
  ·rw [List.length_take, List.length_drop]; omega
  ·intro j h1 h2
   have := hc j c[j] (List.getElem?_eq_getElem h2)
   rw [List.getElem_take, List.getElem_drop]
   obtain ⟨_, h3⟩ := List.getElem?_eq_some_iff.1 this
   exact h3
 rw [he]
 exact hr
theorem Ya {α : Type} [GoT α] {m : Nat → Nat} : Tn m w ([] : List α) ([] : List (List Value)).flatten := rfl
theorem Zv {α : Type} [GoT α] {m : Nat → Nat} {x : α} {xs : List α} {c : List Value} {cs : List (List Value)} (h1 : GoT.rep m w x c) (h2 : Tn m w xs cs.flatten) : Tn m w (x :: xs) (c :: cs).flatten := ⟨c, cs.flatten, rfl, h1, h2⟩
end
end Go.Proofs.YtmebkoemfjlbcaaGreatDoor
