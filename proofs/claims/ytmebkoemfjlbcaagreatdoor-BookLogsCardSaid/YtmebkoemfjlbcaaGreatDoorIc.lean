/- Integers of 32 bits as data, conversions to bytes, arrays as slices. No program is named here. -/
import Derived.Test.YtmebkoemfjlbcaaGreatDoorWr
namespace Go.Proofs.YtmebkoemfjlbcaaGreatDoor
open Go.RowKit

structure I32 where
 n : Int
 deriving DecidableEq, Inhabited
instance : GoT I32 where
 k := 1
 agg := false
 rep _ _ x cs := cs = [.int .i32 x.n]
 len h := by subst h; rfl
 one h := by subst h; simp [Value.oneCell']
 mono _ h := h
 k1 _ := rfl
theorem Az {m : Nat → Nat} {w : World} {x : I32} {v : Value} : RV m w x v ↔ v = .int .i32 x.n := ⟨fun ⟨_, h, hv⟩ => by rw [hv, h]; rfl, fun h => ⟨_, rfl, h⟩⟩
def u8w (n : Int) : UInt8 := UInt8.ofNat (n % 256).toNat
section
variable {P : Program} {e : Env} {x y : Operand}
theorem Vh {op : BinOp} {t t2 : TypeId} {m n : Int} {v : Bool} (hx : ev e x = .int .i32 m) (hy : ev e y = .int .i32 n) (h : N9 op m n = some v) : Pur P (.binOp op t x y t2) e (.bool v) := fun _ _ _ _ _ _ => by
 cases op <;> simp only [N9, Option.some.injEq] at h <;> first
  | (cases h; done)
  | (subst h; simp [execOp, hx, hy, eqGuard, binOp, Op.intCmp])
theorem W3 {s t : TypeId} {n : Int} (hs : P.underlying s = some (.int .i64)) (ht : P.underlying t = some (.int .u8)) (hx : ev e x = .int .i64 n) : Pur P (.convert s t x) e (.int .u8 (u8w n).toNat) := fun _ _ _ _ _ _ => by
 have hwr : IntKind.u8.wrap n = ((u8w n).toNat : Int) := by
  have h1 : 0 ≤ n % 256 := Int.emod_nonneg _ (by omega)
  have h2 : n % 256 < 256 := Int.emod_lt_of_pos _ (by omega)
  unfold IntKind.wrap u8w; simp [IntKind.bits, IntKind.signed]; omega
 simp [execOp, hx, convert, run_underlying hs, run_underlying ht, Conv.intToInt, hwr]
theorem P_mul8 {t t2 : TypeId} {a b : UInt8} (hx : ev e x = .int .u8 a.toNat) (hy : ev e y = .int .u8 b.toNat) : Pur P (.binOp .mul t x y t2) e (.int .u8 (a * b).toNat) :=
 H6 hx hy (fun w => Wc w) fun w => by
  have h : IntKind.u8.wrap ((a.toNat : Int) * (b.toNat : Int)) = (((a * b).toNat : Nat) : Int) := by
   unfold IntKind.wrap; simp [IntKind.bits, IntKind.signed, UInt8.toNat_mul]
  simp only [binOp, Op.intArith, ne_eq, not_true_eq_false, if_false, h, Sem.run_pure]
end
/-! ### Arrays as slices -/
def D6 (p : Value) (n : Nat) : Value := match p with
 | .pointer (some a) => .slice (some a) n n
 | _ => undef
theorem Mb {α : Type} [GoT α] {n : Nat} {m : Nat → Nat} {w : World} {v : Vector α n} {p : Value} (h : PT m w v p) : RV m w v.toList (D6 p n) := by
 obtain ⟨b, off, cs, rfl, hb, hm, hr, hc⟩ := h
 have hl : v.toList.length = n := by simp
 refine Q4 hl.symm (by omega) fun _ => ⟨b, off, rfl, hb, by rw [hl]; exact hm, fun i x hx => ?_⟩
 have hi : i < n := by have := (List.getElem?_eq_some_iff.1 hx).1; omega
 have hx' : v[i] = x := by
  have := (List.getElem?_eq_some_iff.1 hx).2; simpa using this
 have h1 := hr.2 i hi
 rw [hx'] at h1
 refine ⟨_, h1, fun j c hj => ?_⟩
 rw [List.getElem?_take] at hj
 split at hj
 ·rw [List.getElem?_drop] at hj
  rw [Nat.add_assoc]; exact hc _ _ hj
 ·cases hj
section
variable {P : Program} {e : Env} {w : World} {x y : Operand}
theorem D0 {α : Type} [GoT α] {n : Nat} {m : Nat → Nat} {w : World} {v : Vector α n} {t et : TypeId} {p : Value} {r : List α} {hi : Option Operand} {h : Int} (ht : P.underlying t = some (.array n et)) (hs : ∀ w, (sizeOf et).run P w = .ok (GoT.k α) w) (hx : ev e x = p) (hp : PT m w v p)
  (hhi : match hi with | some o => ev e o = .int .i64 h | none => h = (n : Int)) (hc : cut v.toList 0 h = some r) : Pur P (.slice t x none hi none) e (Kf (D6 p n) 0 h.toNat (GoT.k α)) := fun _ _ _ _ _ w' => by
 obtain ⟨b, off, cs, rfl, _⟩ := hp
 unfold cut at hc
 split at hc
 case isFalse => cases hc
 rename_i hb
 obtain ⟨h0, hlh, hhl⟩ := hb
 obtain ⟨hn, rfl⟩ := Int.eq_ofNat_of_zero_le (Int.le_trans h0 hlh)
 have hhl' : (hn : Int) ≤ n := by simpa using hhl
 cases hi with
 | none =>
  simp only at hhi
  have : hn = n := by omega
  subst this
  simp [execOp, hx, Instr.sliceAt, Instr.sliceBounds, Instr.sureAddr, Sem.run_bind, run_underlying ht, hs, Result.andThen, D6, Kf]
  split <;> rfl
 | some o =>
  simp only at hhi
  have hle : hn ≤ n := by omega
  simp [execOp, hx, hhi, Instr.sliceAt, Instr.sliceBounds, Instr.sliceBound, asIntOf, Instr.sureAddr, Sem.run_bind, run_underlying ht, hs, Result.andThen, D6, Kf, hle]
  split <;> rfl
def C5 (v : Value) (l h k : Nat) : Value := match v with
 | .slice a _ _ => .slice (if h = l then a else a.map (·.add (l * k))) (h - l) (h - l)
 | _ => undef
theorem M9 {α : Type} [GoT α] {m : Nat → Nat} {v : Value} {xs r : List α} {l h : Int} (hv : RV m w xs v) (hc : cut xs l h = some r) : RV m w r (C5 v l.toNat h.toNat (GoT.k α)) := by
 have h1 := U7 hv hc
 obtain ⟨a, c, rfl, hxc, hr⟩ := Qc hv
 unfold cut at hc
 split at hc
 case isFalse => cases hc
 rename_i hb
 injection hc with hc
 obtain ⟨a1, c1, he, hrc, hrow⟩ := Qc h1
 simp only [Kf] at he
 injection he with he1 he2 he3
 have hlen : r.length = h.toNat - l.toNat := he2.symm
 simp only [C5]
 refine Q4 hlen.symm (by omega) fun hp => ?_
 obtain ⟨b, off, ha, hbb, hm, hrow⟩ := hrow hp
 refine ⟨b, off, ?_, hbb, hm, hrow⟩
 rw [← ha, ← he1]
 rw [if_neg (by omega), if_neg (by omega)]
theorem Af {α : Type} [GoT α] {m : Nat → Nat} {t et : TypeId} {v : Value} {xs r : List α} {lo hi mx : Operand} {l h : Int} (ht : P.underlying t = some (.slice et)) (hs : ∀ w, (sizeOf et).run P w = .ok (GoT.k α) w)
  (hx : ev e x = v) (hv : RV m w xs v) (hlo : ev e lo = .int .i64 l) (hhi : ev e hi = .int .i64 h) (hmx : ev e mx = .int .i64 h) (hc : cut xs l h = some r) : Pur P (.slice t x (some lo) (some hi) (some mx)) e (C5 v l.toNat h.toNat (GoT.k α)) := fun _ _ _ _ _ w' => by
 obtain ⟨a, c, rfl, hxc, hrow⟩ := Qc hv
 unfold cut at hc
 split at hc
 case isFalse => cases hc
 rename_i hb
 obtain ⟨h0, hlh, hhl⟩ := hb
 obtain ⟨ln, rfl⟩ := Int.eq_ofNat_of_zero_le h0
 obtain ⟨hn, rfl⟩ := Int.eq_ofNat_of_zero_le (Int.le_trans h0 hlh)
 have hlh' : ln ≤ hn := by omega
 have hb3 : hn ≤ c := by omega
 simp [execOp, hx, hlo, hhi, hmx, Instr.sliceAt, Instr.slice, Instr.sliceBounds, Instr.sliceBound, asIntOf, Sem.run_bind, run_underlying ht, hs, Result.andThen, C5, hlh', hb3]
def St {α : Type} (n : Nat) (xs : List α) : Option (Vector α n) := if h : n ≤ xs.length ∧ 0 < n then some ⟨(xs.take n).toArray, by simp [h.1]⟩ else none
def Ag (v : Value) : Value := match v with
 | .slice a _ _ => .pointer a
 | _ => undef
theorem F8 {α : Type} [GoT α] {m : Nat → Nat} {n : Nat} {t et : TypeId} {v : Value} {xs : List α} {r : Vector α n} (ht : P.underlying t = some (.array n et)) (hx : ev e x = v) (hv : RV m w xs v) (hc : St n xs = some r) : Pur P (.sliceToArrayPointer t x) e (Ag v) := fun _ _ _ _ _ w' => by
 obtain ⟨a, c, rfl, hxc, hrow⟩ := Qc hv
 unfold St at hc
 split at hc
 case isFalse => cases hc
 rename_i hb
 have : ¬ xs.length < n := by omega
 simp [execOp, hx, Instr.arrayAt, Sem.run_bind, run_underlying ht, Result.andThen, Ag, this]
theorem Cs {α : Type} [GoT α] {m : Nat → Nat} {n : Nat} {v : Value} {xs : List α} {r : Vector α n} (hv : RV m w xs v) (hc : St n xs = some r) : PT m w r (Ag v) := by
 obtain ⟨a, c, rfl, hxc, hrow⟩ := Qc hv
 unfold St at hc
 split at hc
 case isFalse => cases hc
 rename_i hb
 injection hc with hc
 subst hc
 obtain ⟨b, off, rfl, hbb, hm, hrr⟩ := hrow (by omega)
 have hmul : n * GoT.k α ≤ xs.length * GoT.k α := Nat.mul_le_mul_right _ hb.1
 have htk : Xt m w b off (xs.take n) := fun i x hi => hrr i x (by rw [List.getElem?_take] at hi; split at hi <;> simp_all)
 obtain ⟨cs, hf, hcell⟩ := htk.flat
 have hfl := hf.len
 rw [List.length_take, Nat.min_eq_left hb.1] at hfl
 exact ⟨b, off, cs, rfl, hbb, by show off + n * GoT.k α ≤ m b; omega, Yu hf (by simp [hb.1]), hcell⟩
end
end Go.Proofs.YtmebkoemfjlbcaaGreatDoor
