/- TopYarnShared: the book of the entries. -/
import Derived.Test.YticdblhibbaojaaDoorLawYB
set_option maxRecDepth 8000
namespace Go.Proofs.YticdblhibbaojaaDoor
open Go.RowKit
open Classical

def eY (x : Int) : ShadeEntry := ⟨1, x⟩
theorem y42 {x : Int} (h : 0 ≤ x ∧ x ≤ 2000) : f42 (eY x) = some false := by
 refine Yes.eq ?_
 unfold f42 eY
 exact Yes.bind (zbind _ (y24a (by simp)) (zskip rfl (zbind _ (y24a (by simp only; omega)) (Yes.some (Yes.some rfl)))))
theorem y44 {G s x : Int} {es : List ShadeEntry} (hx : 0 ≤ x ∧ x ≤ s) (hs : s ≤ 2000) : f44 ⟨G, 0, es⟩ ⟨s, s⟩ (eY x) = some ⟨s - x, s - x⟩ := by
 have e1 : w64 (x - 0) = x := by rw [zw64 (by omega) (by omega)]; omega
 have e2 : w64 (x + 0) = x := by rw [zw64 (by omega) (by omega)]; omega
 have e3 : max64 0 x = x := by rw [max64_eqS]; omega
 have e4 : w64 (s - x) = s - x := zw64 (by omega) (by omega)
 have e5 : max64 0 (s - x) = s - x := by rw [max64_eqS]; omega
 have e6 : min64 1099511627776 (s - x) = s - x := by rw [min64_eqS]; omega
 unfold f44 f63 f65 f64 eY
 simp only [Option.bind_some, e1, e2, e3, e4, e5, e6]
 rfl
theorem sum_take {xs : List Int} (h0 : ∀ x ∈ xs, 0 ≤ x) (i : Nat) : (xs.take i).sum ≤ xs.sum := by
 have h1 : ∀ l : List Int, (∀ x ∈ l, 0 ≤ x) → 0 ≤ l.sum := by
  intro l
  induction l with
  | nil => simp
  | cons a l ih => intro h; rw [List.sum_cons]; have := h a (by simp); have := ih fun x hx => h x (by simp [hx]); omega
 have h2 := h1 (xs.drop i) fun x hx => h0 x (List.mem_of_mem_drop hx)
 have : xs.sum = (xs.take i).sum + (xs.drop i).sum := by rw [← List.sum_append, List.take_append_drop]
 omega
theorem take_next {xs : List Int} {i : Nat} (h : i < xs.length) : (xs.take (i + 1)).sum = (xs.take i).sum + xs[i] := by
 rw [List.take_succ_eq_append_getElem h, List.sum_append]; simp
def spY (G : Int) (xs : List Int) (j : Nat) : Span := ⟨G - (xs.take j).sum, G - (xs.take j).sum⟩
def spsY (G : Int) (xs : List Int) (n : Nat) : List Span := (List.range n).map (spY G xs)
theorem sps_len {G : Int} {xs : List Int} {n : Nat} : (spsY G xs n).length = n := by simp [spsY]
theorem sps_at {G : Int} {xs : List Int} {n i : Nat} (h : i < n) : idx (spsY G xs n) (i : Int) = some (spY G xs i) := by
 rw [zidx (by rw [sps_len]; exact h)]; simp [spsY]
theorem y22 {G : Int} {xs : List Int} (hl : xs.length ≤ 40) (h0 : ∀ x ∈ xs, 0 ≤ x) (hs : xs.sum ≤ G) (hG : G ≤ 2000) : f22 ⟨G, 0, xs.map eY⟩ = some (spsY G xs (xs.length + 1), -1) := by
 refine Yes.eq ?_
 unfold f22
 refine Yes.jn ?_
 refine Yes.upto (σ := List Span) xs.length (by omega) (fun i s => s = spsY G xs (i + 1)) (by simp [spsY, spY]) (fun i s k hi hI hk => ?_) (fun s k hI => ?_)
 ·subst hI
  have hn := take_next hi
  have hle := sum_take h0 (i + 1)
  have hx0 := h0 _ (List.getElem_mem hi)
  have hp : 0 ≤ (xs.take i).sum := by
   have := sum_take (xs := xs.take i) (fun x hx => h0 x (List.mem_of_mem_take hx)) 0
   simpa using this
  have he : idx (xs.map eY) (i : Int) = some (eY xs[i]) := by rw [zidx (by simpa using hi)]; simp
  refine ztake (decide_eq_true (by simp only [List.length_map]; omega)) (Yes.jn (zbind _ he (zbind _ (sps_at (Nat.lt_succ_self i)) (zbind _ (y44 (s := G - (xs.take i).sum) (by omega) (by omega)) (Yes.jn (zskip (decide_eq_false (by simp only; omega)) (Yes.bind (Yes.apnd (by rw [sps_len, List.length_singleton]; omega) (by rw [sps_len, List.length_singleton]; omega) (hk _ ?_)))))))))
  have e : (⟨G - (xs.take i).sum - xs[i], G - (xs.take i).sum - xs[i]⟩ : Span) = spY G xs (i + 1) := by unfold spY; rw [hn]; congr 1 <;> omega
  rw [e]
  unfold spsY
  rw [List.range_succ (n := i + 1), List.map_append]; rfl
 ·refine zskip (decide_eq_false (by simp only [List.length_map]; omega)) (Yes.some ?_)
  rw [hI]
theorem y21 {G : Int} {xs : List Int} (hl : xs.length ≤ 40) (h0 : ∀ x ∈ xs, 0 ≤ x ∧ x ≤ 2000) (hG : 1 ≤ G ∧ G ≤ 2000) : f21 G 0 (xs.map eY) = some (⟨G, 0, xs.map eY⟩, 0) := by
 refine Yes.eq ?_
 unfold f21
 refine Yes.jn (Yes.bind (zbind _ (y24a (by omega)) (zskip rfl (zbind _ (y24a (by omega)) (Yes.some (zskip rfl (zskip (decide_eq_false (by rw [List.length_map]; omega)) (zbind _ (y43 (xs.map eY) _ (fun _ => false) (by rw [List.length_map]; omega) fun a ha => ?_) (zskip (by simp) (Yes.some rfl))))))))))
 obtain ⟨x, hx, rfl⟩ := List.mem_map.1 ha
 exact y42 (h0 x hx)
theorem y9 {G : Int} {xs : List Int} (hl : xs.length ≤ 40) (h0 : ∀ x ∈ xs, 0 ≤ x ∧ x ≤ 2000) (hs : xs.sum ≤ G) (hG : 1 ≤ G ∧ G ≤ 2000) : f9 G 0 (xs.map eY) = some (⟨G - xs.sum, G - xs.sum⟩, 0, 0) := by
 refine Yes.eq ?_
 unfold f9
 refine zbind _ (y21 hl h0 hG) (Yes.jn (zskip rfl (zbind _ (y22 hl (fun x hx => (h0 x hx).1) hs hG.2) (Yes.jn (zskip rfl (zbind _ (?_ : _ = some (spY G xs xs.length)) (Yes.some ?_)))))))
 ·rw [List.length_map]; exact sps_at (Nat.lt_succ_self _)
 ·unfold spY; rw [List.take_length]
end Go.Proofs.YticdblhibbaojaaDoor
