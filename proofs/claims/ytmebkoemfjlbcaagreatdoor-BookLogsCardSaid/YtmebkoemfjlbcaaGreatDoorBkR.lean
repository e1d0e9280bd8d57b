/- B8 of chapter 13: put together. -/
import Derived.Test.YtmebkoemfjlbcaaGreatDoorBkKn
import Derived.Test.YtmebkoemfjlbcaaGreatDoorBkS1
set_option maxRecDepth 100000
set_option maxHeartbeats 4000000
namespace Go.Proofs.YtmebkoemfjlbcaaGreatDoor
open Go.RowKit Go.Sort
theorem sort2 {a b : Z2} {ys : List Z2} (hp : ys.Perm [b, a]) (hs : ys.Pairwise fun x y => ¬ ltC y x) (h : ltC a b) : ys = [a, b] := by
 have hl := hp.length_eq
 match ys, hl with
 | [x, y], _ =>
  have hxy : ¬ ltC y x := by simpa using hs
  have hx : x ∈ [b, a] := hp.mem_iff.1 (by simp)
  have hb : b ∈ [x, y] := hp.mem_iff.2 (by simp)
  have ha : a ∈ [x, y] := hp.mem_iff.2 (by simp)
  have hab : a ≠ b := fun e => by subst e; unfold ltC at h; omega
  simp only [List.mem_cons, List.not_mem_nil, or_false] at hx hb ha
  rcases hx with rfl | rfl
  ·rcases ha with rfl | rfl
   ·exact absurd rfl hab
   ·exact absurd h hxy
  ·rcases hb with rfl | rfl
   ·exact absurd rfl hab
   ·rfl
theorem k134 : f134 [(⟨5, 0, 0, 0, 2⟩ : Z2), (⟨0, 0, 0, 0, 3⟩ : Z2)] (fun a0 a1 => f89 a0 a1) = some [(⟨0, 0, 0, 0, 3⟩ : Z2), (⟨5, 0, 0, 0, 2⟩ : Z2)] := by
 obtain ⟨ys, h1, h2, h3⟩ := s70r (zs := [(⟨5, 0, 0, 0, 2⟩ : Z2), (⟨0, 0, 0, 0, 3⟩ : Z2)]) (by simp)
 rw [h1, sort2 h2 h3 (.inl (by decide))]

theorem k95a : f95 [[0, 5, 0, 0, 0, 2, 7, 22], [0, 0, 0, 0, 0, 3, 3, 18], [0, 5, 0, 0, 0, 2, 7, 22]] = some ([(⟨0, 0, 0, 0, 3⟩ : Z2), (⟨5, 0, 0, 0, 2⟩ : Z2)], 0, 0) := by
 rw [Mx, congrFun k95a' f134, k134]; rfl
theorem k95b : f95 [[0, 5, 0, 0, 0, 2, 7, 22], [0, 0, 0, 0, 0, 3, 3, 18]] = some ([(⟨0, 0, 0, 0, 3⟩ : Z2), (⟨5, 0, 0, 0, 2⟩ : Z2)], 0, 0) := by
 rw [Mx, congrFun k95b' f134, k134]; rfl
theorem k42 : f42 [[0, 5, 0, 0, 0, 2, 7, 22], [0, 0, 0, 0, 0, 3, 3, 18], [0, 5, 0, 0, 0, 2, 7, 22]] = some ([0, 0, 0, 0, 0, 3, 3, 18] ++ [0, 5, 0, 0, 0, 2, 7, 22], 0, 0) := by
 unfold f42
 exact Hv k95a (Hv k31c rfl)
theorem k43 : f43 (⟨[⟨⟨[112, 108, 97, 105, 110]⟩, ⟨2, [0, 1, 0]⟩⟩], [⟨⟨[116, 119, 105, 108, 108]⟩, ⟨2, [⟨0, 1, false⟩, ⟨-1, 1, true⟩]⟩⟩]⟩ : Gg) [[0, 5, 0, 0, 0, 2, 7, 22], [0, 0, 0, 0, 0, 3, 3, 18]] = some ([[⟨[120, 46, 120]⟩, ⟨[46, 120, 46]⟩, ⟨[120, 46, 120]⟩, ⟨[46, 120, 46]⟩, ⟨[120, 46, 120]⟩]] ++ List.replicate 15 [], 0, 0) := by
 unfold f43
 refine Hv k67 (Hv k95b ?_)
 kernel_rfl
theorem B8 : f13 = some true := by
 unfold f13
 refine Hv k15 (Hv k19 (Hv k52 (Hv k23 (Hv k26 (Hv k31 (Hv k32 (Hv k37 (Hv k53a (Hv k31a (Hv k53b (Hv k31b (Hv k42 (Hv k52 (Hv k43 ?_))))))))))))))
 kernel_rfl
end Go.Proofs.YtmebkoemfjlbcaaGreatDoor
/- BookRepairs of chapter 13: the plain law. -/
set_option maxRecDepth 100000
set_option maxHeartbeats 4000000
namespace Go.Proofs.YtmebkoemfjlbcaaGreatDoor
open Go.RowKit
theorem Qo {α : Type} {Q : α → Prop} {c : Bool} {X Y : Option α} (hc : c = false) (h : Yes Y Q) : Yes (bif c then X else Y) Q := by rw [hc]; exact h
theorem Kg {α : Type} {Q : α → Prop} {c : Bool} {X Y : Option α} (hc : c = true) (h : Yes X Q) : Yes (bif c then X else Y) Q := by rw [hc]; exact h
theorem Bn {α : Type} {xs : List α} {i : Nat} (h : i < xs.length) : idx xs (i : Int) = some xs[i] := by unfold idx; rw [if_pos (Int.natCast_nonneg i)]; exact List.getElem?_eq_getElem h
def clo (a b c d e f : UInt8) : Z2 := ⟨256 * (a.toNat : Int) + (b.toNat : Int), (c.toNat : Int), (d.toNat : Int), (e.toNat : Int), (f.toNat : Int)⟩
def sm6 (a b c d e f : UInt8) : UInt8 := 0 + a + b + c + d + e + f
def pl6 (a b c d e f : UInt8) : UInt8 := 0 + u8w 1 * a + u8w 2 * b + u8w 3 * c + u8w 4 * d + u8w 5 * e + u8w 6 * f
theorem O5 (a b c d e f g h : UInt8) : f131 ⟨#[a, b, c, d, e, f, g, h], rfl⟩ = some (sm6 a b c d e f, pl6 a b c d e f) := by kernel_rfl
def S94 (a b c d e f : UInt8) : Int := w64 (w64 (w64 (w64 (w64 (w64 (0 + (a.toNat : Int)) + (b.toNat : Int)) + (c.toNat : Int)) + (d.toNat : Int)) + (e.toNat : Int)) + (f.toNat : Int))
def T94 (a b c d e f : UInt8) : Int := w64 (w64 (w64 (w64 (w64 (w64 (0 + w64 (1 * (a.toNat : Int))) + w64 (2 * (b.toNat : Int))) + w64 (3 * (c.toNat : Int))) + w64 (4 * (d.toNat : Int))) + w64 (5 * (e.toNat : Int))) + w64 (6 * (f.toNat : Int)))
theorem s94a (a b c d e f : UInt8) : f94 [a, b, c, d, e, f] = (H3 (S94 a b c d e f) 256).bind fun x => (H3 (T94 a b c d e f) 256).bind fun y => some (u8w x, u8w y) := by kernel_rfl
theorem b8 (a : UInt8) : 0 ≤ (a.toNat : Int) ∧ (a.toNat : Int) < 256 := ⟨Int.natCast_nonneg _, by have := a.toNat_lt; omega⟩
theorem Ji {n : Int} (h0 : 0 ≤ n) : (u8w n).toNat = n.toNat % 256 := by
 unfold u8w
 simp [UInt8.toNat_ofNat']
 omega
theorem s94v (a b c d e f : UInt8) : f94 [a, b, c, d, e, f] = some (sm6 a b c d e f, pl6 a b c d e f) := by
 have ha := b8 a; have hb := b8 b; have hc := b8 c; have hd := b8 d; have he := b8 e; have hf := b8 f
 have hS : S94 a b c d e f = (a.toNat : Int) + b.toNat + c.toNat + d.toNat + e.toNat + f.toNat := by
  unfold S94
  rw [T9 (n := 0 + (a.toNat : Int)) (by omega) (by omega), T9 (n := 0 + (a.toNat : Int) + (b.toNat : Int)) (by omega) (by omega), T9 (n := 0 + (a.toNat : Int) + (b.toNat : Int) + (c.toNat : Int)) (by omega) (by omega), T9 (n := 0 + (a.toNat : Int) + (b.toNat : Int) + (c.toNat : Int) + (d.toNat : Int)) (by omega) (by omega), T9 (n := 0 + (a.toNat : Int) + (b.toNat : Int) + (c.toNat : Int) + (d.toNat : Int) + (e.toNat : Int)) (by omega) (by omega), T9 (n := 0 + (a.toNat : Int) + (b.toNat : Int) + (c.toNat : Int) + (d.toNat : Int) + (e.toNat : Int) + (f.toNat : Int)) (by omega) (by omega)]
  omega
 have hT : T94 a b c d e f = (a.toNat : Int) + 2 * b.toNat + 3 * c.toNat + 4 * d.toNat + 5 * e.toNat + 6 * f.toNat := by
  unfold T94
  rw [T9 (n := 1 * (a.toNat : Int)) (by omega) (by omega), T9 (n := 2 * (b.toNat : Int)) (by omega) (by omega), T9 (n := 3 * (c.toNat : Int)) (by omega) (by omega), T9 (n := 4 * (d.toNat : Int)) (by omega) (by omega), T9 (n := 5 * (e.toNat : Int)) (by omega) (by omega), T9 (n := 6 * (f.toNat : Int)) (by omega) (by omega)]
  rw [T9 (n := 0 + 1 * (a.toNat : Int)) (by omega) (by omega), T9 (n := 0 + 1 * (a.toNat : Int) + 2 * (b.toNat : Int)) (by omega) (by omega), T9 (n := 0 + 1 * (a.toNat : Int) + 2 * (b.toNat : Int) + 3 * (c.toNat : Int)) (by omega) (by omega), T9 (n := 0 + 1 * (a.toNat : Int) + 2 * (b.toNat : Int) + 3 * (c.toNat : Int) + 4 * (d.toNat : Int)) (by omega) (by omega), T9 (n := 0 + 1 * (a.toNat : Int) + 2 * (b.toNat : Int) + 3 * (c.toNat : Int) + 4 * (d.toNat : Int) + 5 * (e.toNat : Int)) (by omega) (by omega), T9 (n := 0 + 1 * (a.toNat : Int) + 2 * (b.toNat : Int) + 3 * (c.toNat : Int) + 4 * (d.toNat : Int) + 5 * (e.toNat : Int) + 6 * (f.toNat : Int)) (by omega) (by omega)]
  omega
 rw [s94a, hS, hT]
 have r1 : ∀ n : Int, 0 ≤ n → H3 n 256 = some (n % 256) := fun n hn => by
  unfold H3; rw [if_neg (by omega), Int.tmod_eq_emod_of_nonneg hn]
 rw [r1 _ (by omega), r1 _ (by omega)]
 show some (_, _) = some (_, _)
 refine congrArg some (Prod.ext ?_ ?_)
 ·refine UInt8.toNat_inj.1 ?_
  show (u8w _).toNat = (sm6 a b c d e f).toNat
  rw [Ji (by omega)]
  unfold sm6
  simp only [UInt8.toNat_add]
  simp
  omega
 ·refine UInt8.toNat_inj.1 ?_
  show (u8w _).toNat = (pl6 a b c d e f).toNat
  rw [Ji (by omega)]
  unfold pl6
  simp only [UInt8.toNat_add, UInt8.toNat_mul, show (u8w 1).toNat = 1 from rfl, show (u8w 2).toNat = 2 from rfl, show (u8w 3).toNat = 3 from rfl, show (u8w 4).toNat = 4 from rfl, show (u8w 5).toNat = 5 from rfl, show (u8w 6).toNat = 6 from rfl]
  simp
  omega
end Go.Proofs.YtmebkoemfjlbcaaGreatDoor
