/- Sorting by a key at 12 elements or fewer. -/
import Derived.Test.YtbelgnbjkciafaaGreatDoorRbSR
set_option maxRecDepth 8000
namespace Go.Proofs.YtbelgnbjkciafaaGreatDoor
open Go.RowKit

theorem wu64_id {n:Int} (h1:0 ≤ n) (h2:n ≤ 18446744073709551615):wu64 n=n:=by
 unfold wu64; rw [IntKind.wrap_u64]; omega
theorem s101 {n:Nat} (h:n < 256):∃ v,f85 (wu64 n)=some v:=by
 rw [wu64_id (by omega) (by omega)]
 unfold f85 f118
 rw [if_pos ⟨by omega,by omega⟩]
 have hl:n < lenTab.b.length:=by rw [show lenTab.b.length=256 from by kernel_rfl]; exact h
 rw [qidx hl]
 exact ⟨_,rfl⟩
theorem s87 {φ : El → El → Option Int} {key : El → Int} {xs : List El} (hφ : ∀ x y, x ∈ xs → y ∈ xs → ∃ c, φ x y = some c ∧ (c < 0 ↔ key x < key y)) (hl : xs.length ≤ 12) :
  ∃ ys,f48 xs φ=some ys∧Stab key xs ys∧Srt key ys:=by
 obtain ⟨v,hv⟩:=s101 (n:=xs.length) (by omega)
 have h106:=s106 (xs:=xs) (P:=[]) (X:=xs) (S:=[]) (a:=0) (b:=(xs.length:Int)) hφ (by simp) rfl (by simp) (by omega)
 have:Yes (f48 xs φ) fun r=>Stab key xs r∧Srt key r:=by
  unfold f48
  refine Yes.bind (Yes.of hv (Yes.bind ?_))
  obtain ⟨B,hB⟩:∃ B,big=B + 1:=⟨18446744073709551615,by kernel_rfl⟩
  generalize hbb:f84 big xs 0 (xs.length:Int) v φ=z
  rw [hB] at hbb
  subst hbb
  unfold f84
  refine Yes.lp (fun s=>s.1=xs∧s.2.1=0∧s.2.2.1=(xs.length:Int)) (fun _=>0) ⟨rfl,rfl,rfl⟩ (by decide) ?_
  rintro ⟨m,a,b,c,d,e⟩ k ⟨e1,e2,e3⟩ hk
  simp only at e1 e2 e3
  subst e1; subst e2; subst e3
  have h1:decide (w64 ((m.length:Int) - 0) ≤ 12)=true:=by rw [w64_id (by omega) (by omega)]; simp; omega
  refine Yes.jn (Yes.cond (fun _=>Yes.bind (h106.mono fun r hr=>?_)) (fun h=>by rw [h1] at h; cases h))
  obtain ⟨Y,h2,h3,h4⟩:=hr
  have:r=Y:=by simpa using h2
  subst this
  exact Yes.some (Yes.some ⟨h3,h4⟩)
 obtain ⟨ys,h,h2⟩:=this
 exact ⟨ys,h,h2⟩
theorem Stab.mem_iff {α:Type} {key:α→Int} {xs ys:List α} (h:Stab key xs ys) {x:α}:x ∈ xs ↔ x ∈ ys:=⟨fun hx=>Stab.mem (fun v=>(h v).symm) hx,fun hx=>Stab.mem h hx⟩
theorem Stab.one {α:Type} {key:α→Int} {xs ys:List α} (h:Stab key xs ys) (hd:xs.Pairwise fun a b=>key a ≠ key b) (hs:Srt key ys):ys.Pairwise fun a b=>key a < key b:=by
 have h1:∀ v:Int,(ys.filter fun x=>key x == v).length ≤ 1:=fun v=>by
  rw [← h v]
  clear h hs
  induction xs with
  | nil=>simp
  | cons a xs ih=>
   obtain ⟨h2,h3⟩:=List.pairwise_cons.1 hd
   rw [List.filter_cons]
   split
   ·rename_i hav
    have:xs.filter (fun x=>key x == v)=[]:=List.filter_eq_nil_iff.2 fun x hx hk=>h2 x hx (by simp at hav hk; omega)
    rw [this]; simp
   ·exact ih h3
 clear h hd
 induction ys with
 | nil=>exact .nil
 | cons a ys ih=>
  obtain ⟨h2,h3⟩:=List.pairwise_cons.1 hs
  refine List.pairwise_cons.2 ⟨fun b hb=>?_,ih h3 fun v=>by
   have:=h1 v
   rw [List.filter_cons] at this
   split at this
   ·rw [List.length_cons] at this; omega
   ·exact this⟩
  have h4:=h2 b hb
  have h5:=h1 (key a)
  rw [List.filter_cons] at h5
  simp at h5
  have:=h5 b hb
  omega
end Go.Proofs.YtbelgnbjkciafaaGreatDoor
