/- A part cut out of an own slice, in place; a slice that an own variable shares. No program is named here. -/
import Derived.Test.YtlmibfohllgmeaaGreatCe
namespace Go.Proofs.YtlmibfohllgmeaaGreat
open Go.RowKit
section
variable {α:Type} [GoT α] {m:Nat→Nat} {w:World}
theorem FlatR.take : ∀ {xs : List α} {cs : List Value} (n : Nat), FlatR m w xs cs → FlatR m w (xs.take n) (cs.take (n * GoT.k α))
 | [],_,n,h=>by rw [show _=[] from h]; simp; exact rfl
 | _ :: _,_,0,_=>by simp; exact rfl
 | _ :: _,_,n + 1,⟨c1,c2,he,h1,h2⟩=>by
  subst he
  have hl:=GoT.len h1
  have e1:(n + 1) * GoT.k α=c1.length + n * GoT.k α:=by rw [Nat.add_mul,hl]; omega
  rw [List.take_succ_cons,e1,List.take_append,List.take_of_length_le (Nat.le_add_right _ _),Nat.add_sub_cancel_left]
  exact ⟨_,_,rfl,h1,h2.take n⟩
theorem FlatR.drop : ∀ {xs : List α} {cs : List Value} (n : Nat), FlatR m w xs cs → FlatR m w (xs.drop n) (cs.drop (n * GoT.k α))
 | [],_,n,h=>by rw [show _=[] from h]; simp; exact rfl
 | _ :: _,_,0,h=>by simpa using h
 | _ :: _,_,n + 1,⟨c1,c2,he,h1,h2⟩=>by
  subst he
  have hl:=GoT.len h1
  have e1:(n + 1) * GoT.k α=c1.length + n * GoT.k α:=by rw [Nat.add_mul,hl]; omega
  rw [List.drop_succ_cons,e1,List.drop_append,List.drop_of_length_le (Nat.le_add_right _ _),List.nil_append,Nat.add_sub_cancel_left]
  exact h2.drop n
end
section
variable {P:Program} {e:Env} {w:World} {g:Gh} {K:Value→World→Prop} {x y z:Operand}
end
end Go.Proofs.YtlmibfohllgmeaaGreat
