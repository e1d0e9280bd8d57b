/- Functions with several outcomes (a range over a map fills what lives on): the plain function lists them all. No program is named here. -/
import Derived.Test.YtlmibfohllgmeaaCp
namespace Go.Proofs.Ytlmibfohllgmeaa
open Go.RowKit

def Aa {ρ : Type} : List (Option (List ρ)) → Option (List ρ)
 | [] => some []
 | x :: xs => match x, Aa xs with
  | some a, some b => some (a ++ b)
  | _, _ => none
def Cx {α ρ : Type} (rem : List α) (k : α → List α → Option (List ρ)) : Option (List ρ) := Aa ((Jo rem).map fun p => k p.1 p.2)
noncomputable def Mm {α ρ : Type} (rs : List α) (k : α → Option ρ) : Option ρ := match rs with
 | [] => none
 | a :: l => @ite _ (∀ b ∈ l, k b = k a) (Classical.propDecidable _) (k a) none
theorem Ao {ρ : Type} : ∀ {l : List (Option (List ρ))} {rs : List ρ}, Aa l = some rs → ∀ x ∈ l, ∃ r, x = some r ∧ ∀ a ∈ r, a ∈ rs
 | [], _, _, _, hx => by cases hx
 | none :: l, rs, h, x, hx => by cases h
 | some y :: l, rs, h, x, hx => by
  unfold Aa at h
  cases hc : Aa l with
  | none => rw [hc] at h; cases h
  | some b =>
   rw [hc] at h
   simp only [Option.some.injEq] at h; subst h
   rcases List.mem_cons.1 hx with rfl | hx
   ·exact ⟨y, rfl, fun c hc => List.mem_append_left _ hc⟩
   ·obtain ⟨r, h1, h2⟩ := Ao hc x hx
    exact ⟨r, h1, fun c hc => List.mem_append_right _ (h2 c hc)⟩
theorem Nb {α ρ : Type} {rem : List α} {k : α → List α → Option (List ρ)} {r r0 : List ρ} (h : Cx rem k = some r) (hs : ∀ a ∈ r, a ∈ r0) (p : α × List α) (hp : p ∈ Jo rem) : ∃ r, k p.1 p.2 = some r ∧ ∀ a ∈ r, a ∈ r0 := by
 obtain ⟨r', h1, h2⟩ := Ao h _ (List.mem_map.2 ⟨p, hp, rfl⟩)
 exact ⟨r', h1, fun a ha => hs a (h2 a ha)⟩
theorem callL_h {α ρ : Type} {rs : List α} {k : α → Option ρ} {r : ρ} (h : Mm rs k = some r) : ∀ a ∈ rs, k a = some r := by
 unfold Mm at h
 split at h
 ·cases h
 ·rename_i a l
  split at h
  ·rename_i hall
   intro b hb
   rcases List.mem_cons.1 hb with rfl | hb
   ·exact h
   ·rw [hall b hb, h]
  ·cases h
def Ma {α ρ : Type} (rs : List α) (k : α → Option (List ρ)) : Option (List ρ) := Aa (rs.map k)
theorem Ox {α ρ : Type} {rs : List α} {k : α → Option (List ρ)} {r r0 : List ρ} (h : Ma rs k = some r) (hs : ∀ a ∈ r, a ∈ r0) : ∀ a ∈ rs, ∃ r, k a = some r ∧ ∀ a ∈ r, a ∈ r0 := fun a ha => by
 obtain ⟨r', h1, h2⟩ := Ao h _ (List.mem_map.2 ⟨a, ha, rfl⟩)
 exact ⟨r', h1, fun a ha => hs a (h2 a ha)⟩
section
variable {P : Program} {N : Nat} {ro : Option Nat} {Q : Jt} {e : Env} {ds : List Deferred} {w : World} {x y c : Code}
theorem Dx {σ ρ : Type} {r r0 : List ρ} {k : σ → Option (List ρ)} {f : (σ → Option (List ρ)) → Option (List ρ)} (hr : jn k f = some r) (hs : ∀ a ∈ r, a ∈ r0) (R : σ → Env → World → Prop)
  (h1 : ∀ (X : Env → List Deferred → World → Prop) (k : σ → Option (List ρ)), (∀ s e w, R s e w → ∀ r, k s = some r → (∀ a ∈ r, a ∈ r0) → X e ds w) → ∀ r, f k = some r → (∀ a ∈ r, a ∈ r0) → E P N ro x (thn X Q) e ds w)
  (h2 : ∀ s e w, R s e w → ∀ r, k s = some r → (∀ a ∈ r, a ∈ r0) → E P N ro y Q e ds w) : E P N ro (.seq x y) Q e ds w :=
 Zf (h1 _ k (fun s e w hR r hk hs => h2 s e w hR r hk hs) r hr hs)
theorem E_lpL {σ ρ : Type} {r r0 : List ρ} {m : Nat} {s : σ} {body : (σ → Option (List ρ)) → σ → Option (List ρ)} (hr : lp body m s = some r) (hs : ∀ a ∈ r, a ∈ r0) (R : σ → Env → World → Prop) (h0 : R s e w)
  (step : ∀ (X : Env → List Deferred → World → Prop) (rec : σ → Option (List ρ)), (∀ s e w, R s e w → ∀ r, rec s = some r → (∀ a ∈ r, a ∈ r0) → X e ds w) → ∀ s e w, R s e w → ∀ r, body rec s = some r → (∀ a ∈ r, a ∈ r0) → E P N ro c (thn X Q) e ds w) : E P N ro (.loop c) Q e ds w := by
 refine Om m ?_
 revert s e w r
 induction m with
 | zero => intro e w r s hr _ h0; rw [Lq] at hr; cases hr
 | succ m ih =>
  intro e w r s hr hs h0
  rw [Sy] at hr
  exact step _ (lp body m) (fun s e w hR r hk hs => ih hk hs hR) s e w h0 r hr hs
end
end Go.Proofs.Ytlmibfohllgmeaa
