/- A machine of plain data: steps on its memory, and its operations. No program is named here. -/
import Derived.Test.YtjoniingnbmljaaRa
namespace Go.Proofs.Ytjoniingnbmljaa
noncomputable section
open Go.RowKit

def setR (ρ : Rn) (b : Nat) (x : Nat × Nat) : Rn := fun c => if c = b then some x else ρ c
theorem setR_le {ρ : Rn} {b : Nat} {x : Nat × Nat} (h : ρ b = none) : RnLe ρ (setR ρ b x) := fun c y hc => by
 unfold setR; rw [if_neg (fun e => by rw [e, h] at hc; cases hc)]; exact hc
theorem setR_same (ρ : Rn) (b : Nat) (x : Nat × Nat) : setR ρ b x b = some x := by simp [setR]
theorem setR_ne (ρ : Rn) {b c : Nat} {x : Nat × Nat} (h : c ≠ b) : setR ρ b x c = ρ c := by simp [setR, h]
theorem gro_alloc (w : World) (o : Obj) : Gro w (w.alloc o) := ⟨rfl, rfl, rfl, by simp, fun x cs el fz h => ⟨cs, (heap_old w o (lt_of_heap h)).trans h, rfl⟩⟩
theorem gro_drew (w : World) : Gro w w.drew := ⟨rfl, rfl, rfl, Nat.le_refl _, fun _ cs _ _ h => ⟨cs, h, rfl⟩⟩
theorem gro_row {w : World} {b : Nat} {cs cur : Array Value} {bt : TypeId} (hh : w.heap[b]? = some (.cells cur bt (0, 0))) (hs : cs.size = cur.size) : Gro w (w.setRow b cs) := by
 refine ⟨rfl, rfl, rfl, by rw [setRow_size]; exact Nat.le_refl _, fun x cs' el fz h => ?_⟩
 by_cases hx : x = b
 ·subst hx; rw [hh] at h; injection h with h; injection h with h1 h2 h3; subst h1; subst h2; subst h3
  exact ⟨cs, setRow_cells _ _ hh, hs⟩
 ·exact ⟨cs', (setRow_other b cs hx).trans h, rfl⟩
theorem putObj_size (w : World) (r : Nat) (o : Obj) : (w.putObj r o).heap.size = w.heap.size := by simp [World.putObj]
theorem gro_put {w : World} {b : Nat} {o o' : Obj} (hh : w.heap[b]? = some o') (hc : ∀ cs el fz, o' ≠ .cells cs el fz) : Gro w (w.putObj b o) := by
 refine ⟨rfl, rfl, rfl, by rw [putObj_size]; exact Nat.le_refl _, fun x cs' el fz h => ?_⟩
 by_cases hx : x = b
 ·subst hx; rw [hh] at h; injection h with h; exact absurd h (hc _ _ _)
 ·exact ⟨cs', (World.putObj_heap_other hx).trans h, rfl⟩

section
variable {cx : Cx} {base : Nat} {ρ : Rn} {S S' : St} {w w' : World}
theorem Sim.drew (h : Sim cx base ρ S w) : Sim cx base ρ S w.drew := ⟨fun b B hv hb => let ⟨y, h1, h2⟩ := h.blk b B hv hb; ⟨y, h1, h2.mono (RnLe.refl _) (gro_drew w) rfl⟩, h.inj, h.rng, h.base, h.bnd, h.cut⟩
theorem evo_drew (_hcut : cx.cut ≤ S.n) : Evo cx ρ S w ρ S w.drew := ⟨Nat.le_refl _, fun _ h => h, fun _ h => .inl h, fun _ _ _ => rfl, fun _ _ h => h, RnLe.refl _, fun b h k => absurd h k, gro_drew w, fun _ _ => .inl rfl, fun b y h k => by rw [h] at k; cases k⟩
theorem new_ok (hs : Sim cx base ρ S w) (hf : ρ S.n = none) (o : Obj) (B : Blk) (hB : BR (setR ρ S.n (w.heap.size, 0)) (w.alloc o) B (w.heap.size, 0)) :
  Evo cx ρ S w (setR ρ S.n (w.heap.size, 0)) (S.new B) (w.alloc o) ∧ Sim cx base (setR ρ S.n (w.heap.size, 0)) (S.new B) (w.alloc o) := by
 have hsz : (w.alloc o).heap.size = w.heap.size + 1 := by simp
 have hcut := hs.cut
 refine ⟨⟨Nat.le_succ _, fun _ h => h, fun _ h => .inl h, fun b hb _ => ?_, fun b hb hd => ?_, setR_le hf, fun b h1 h2 => ?_, gro_alloc w o, fun x hx => .inl (heap_old w o hx), fun b y h1 h2 => ?_⟩, ⟨fun b B' hv hb => ?_, fun b b' y y' hv hv' hb hb' h1 h2 h3 => ?_, fun b y h1 => ?_, by have := hs.base; rw [hsz]; omega, fun b hb => ?_, by show cx.cut ≤ S.n + 1; omega⟩⟩
 ·rw [get_new, if_neg (by omega)]
 ·rw [get_new, if_neg (by omega)]; exact hd
 ·by_cases hbn : b = S.n
  ·subst hbn; exact ⟨Nat.le_refl _, Nat.lt_succ_self _⟩
  ·rw [setR_ne _ hbn] at h2; exact absurd h1 h2
 ·by_cases hbn : b = S.n
  ·subst hbn; rw [setR_same] at h2; injection h2 with h2; subst h2; exact .inl (Nat.le_refl _)
  ·rw [setR_ne _ hbn, h1] at h2; cases h2
 ·rw [get_new] at hb
  by_cases hbn : b = S.n
  ·subst hbn; rw [if_pos rfl] at hb; injection hb with hb; subst hb; exact ⟨_, setR_same _ _ _, hB⟩
  ·rw [if_neg hbn] at hb
   obtain ⟨y, h1, h2⟩ := hs.blk b B' hv hb
   exact ⟨y, by rw [setR_ne _ hbn]; exact h1, h2.mono (setR_le hf) (gro_alloc w o) (heap_old w o h2.lt)⟩
 ·rw [get_new] at hb hb'
  by_cases hbn : b = S.n <;> by_cases hbn' : b' = S.n
  ·rw [hbn, hbn']
  ·subst hbn
   rw [setR_same] at h1; injection h1 with h1; subst h1
   rw [setR_ne _ hbn'] at h2
   have := (hs.rng b' y' h2).2; simp only at h3; omega
  ·subst hbn'
   rw [setR_same] at h2; injection h2 with h2; subst h2
   rw [setR_ne _ hbn] at h1
   have := (hs.rng b y h1).2; simp only at h3; omega
  ·rw [setR_ne _ hbn] at h1; rw [setR_ne _ hbn'] at h2
   rw [if_neg hbn] at hb; rw [if_neg hbn'] at hb'
   exact hs.inj b b' y y' hv hv' hb hb' h1 h2 h3
 ·by_cases hbn : b = S.n
  ·subst hbn; rw [setR_same] at h1; injection h1 with h1; subst h1; have := hs.base; rw [hsz]; simp only; omega
  ·rw [setR_ne _ hbn] at h1; have := hs.rng b y h1; rw [hsz]; omega
 ·rw [get_new] at hb
  by_cases hbn : b = S.n
  ·subst hbn; exact Nat.lt_succ_self _
  ·rw [if_neg hbn] at hb; exact Nat.lt_succ_of_lt (hs.bnd b hb)
theorem get_put {b : Nat} {B : Option Blk} (h : S.put cx b B = some S') : cx.mod b = true ∧ S'.n = S.n ∧ S'.log = S.wrote cx b ∧ ∀ c, S'.get c = if c = b then B else S.get c := by
 unfold St.put at h
 cases hm : cx.mod b with
 | false => rw [hm] at h; cases h
 | true => rw [hm] at h; simp only [cond_true, Option.some.injEq] at h; subst h; exact ⟨rfl, rfl, rfl, fun c => Mp.get_set _ _ _ _⟩
theorem mem_wrote {b c : Nat} : c ∈ S.wrote cx b → c ∈ S.log ∨ c = b ∧ b < cx.cut := by
 unfold St.wrote
 cases h : (Nat.blt b cx.cut && !(S.log.contains b)) with
 | false => exact .inl
 | true =>
  simp only [Bool.and_eq_true] at h
  intro hc
  rcases List.mem_cons.1 hc with h1 | h1
  ·exact .inr ⟨h1, Nat.le_of_ble_eq_true h.1⟩
  ·exact .inl h1
theorem wrote_mem {b : Nat} (h : b < cx.cut) : b ∈ S.wrote cx b := by
 unfold St.wrote
 have h1 : Nat.blt b cx.cut = true := Nat.ble_eq_true_of_le h
 cases h2 : S.log.contains b with
 | false => simp [h1]
 | true => simp [h1]; simpa using h2
theorem wrote_log {b c : Nat} (h : c ∈ S.log) : c ∈ S.wrote cx b := by
 unfold St.wrote
 cases (Nat.blt b cx.cut && !(S.log.contains b)) <;> simp [h]
theorem put_ok (hs : Sim cx base ρ S w) {b : Nat} {y : Nat × Nat} {B0 : Blk} {B : Option Blk} (hb : S.get b = some B0) (hy : ρ b = some y) (hg : Gro w w') (hsz : w'.heap.size = w.heap.size) (ho : ∀ x, x ≠ y.1 → w'.heap[x]? = w.heap[x]?)
  (hB : ∀ B1, B = some B1 → BR ρ w' B1 y) (hS : S.put cx b B = some S') : Evo cx ρ S w ρ S' w' ∧ Sim cx base ρ S' w' := by
 have hbn : b < S.n := hs.bnd b (by rw [hb]; simp)
 obtain ⟨hm, hn, hl, hget⟩ := get_put hS
 have hvb := Cx.mod_vis hm
 have hcut := hs.cut
 have live : ∀ c, S'.get c ≠ none → S.get c ≠ none := fun c hc => by
  rw [hget] at hc
  by_cases h1 : c = b
  ·rw [h1, hb]; simp
  ·rw [if_neg h1] at hc; exact hc
 refine ⟨⟨by omega, fun c hc => by rw [hl]; exact wrote_log hc, fun c hc => ?_, fun c hc hnl => ?_, fun c hc hd => ?_, RnLe.refl _, fun b h k => absurd h k, hg, fun x hx => ?_, fun b y h k => by rw [h] at k; cases k⟩,
  ⟨fun c B' hv hc => ?_, fun c c' z z' hv hv' hc hc' h1 h2 h3 => hs.inj c c' z z' hv hv' (live c hc) (live c' hc') h1 h2 h3, fun c z h1 => by rw [hsz]; exact hs.rng c z h1, by rw [hsz]; exact hs.base, fun c hc => by rw [hn]; exact hs.bnd c (live c hc), by omega⟩⟩
 ·rw [hl] at hc
  rcases mem_wrote hc with h1 | ⟨h1, h2⟩
  ·exact .inl h1
  ·right; subst h1
   unfold Cx.mod at hm
   have : Nat.ble cx.cut c = false := by
    cases h3 : Nat.ble cx.cut c
    ·rfl
    ·have := Nat.le_of_ble_eq_true h3; omega
   rw [this] at hm; simp at hm; exact ⟨h2, hm.1, hm.2⟩
 ·rw [hget]
  by_cases h1 : c = b
  ·subst h1; exact absurd (by rw [hl]; exact wrote_mem hc) hnl
  ·rw [if_neg h1]
 ·rw [hget]
  by_cases h1 : c = b
  ·subst h1; rw [hb] at hd; cases hd
  ·rw [if_neg h1]; exact hd
 ·by_cases h1 : x = y.1
  ·refine .inr ⟨b, y, hy, h1.symm, ?_⟩
   rcases Nat.lt_or_ge b cx.cut with h2 | h2
   ·exact .inl ⟨by rw [hl]; exact wrote_mem h2, h2⟩
   ·exact .inr ⟨h2, by omega⟩
  ·exact .inl (ho x h1)
 ·rw [hget] at hc
  by_cases h1 : c = b
  ·subst h1; rw [if_pos rfl] at hc; exact ⟨y, hy, hB B' hc⟩
  ·rw [if_neg h1] at hc
   obtain ⟨z, h2, h3⟩ := hs.blk c B' hv hc
   refine ⟨z, h2, h3.mono (RnLe.refl _) hg (ho z.1 fun h4 => ?_)⟩
   exact h1 (hs.inj c b z y hv hvb (by rw [hc]; simp) (by rw [hb]; simp) h2 hy h4)
theorem take_ok (hs : Sim cx base ρ S w) {b sh : Nat} {y : Nat × Nat} {B0 B : Blk} (hb : S.get b = some B0) (hy : ρ b = some y) (hg : Gro w w') (hsz : w'.heap.size = w.heap.size) (ho : ∀ x, x ≠ y.1 → w'.heap[x]? = w.heap[x]?)
  (hf : ρ S.n = none) (hB : BR (setR ρ S.n (y.1, sh)) w' B (y.1, sh)) (hS : S.put cx b none = some S') : Evo cx ρ S w (setR ρ S.n (y.1, sh)) (S'.new B) w' ∧ Sim cx base (setR ρ S.n (y.1, sh)) (S'.new B) w' := by
 have hbn : b < S.n := hs.bnd b (by rw [hb]; simp)
 obtain ⟨ev, sm⟩ := put_ok hs hb hy hg hsz ho (B := none) (fun _ h => by cases h) hS
 obtain ⟨hm, hn, hl, hget⟩ := get_put hS
 have hvb := Cx.mod_vis hm
 have hcut := hs.cut
 refine ⟨⟨by show S.n ≤ S'.n + 1; omega, ev.log, ev.wr, fun c hc hnl => ?_, fun c hc hd => ?_, setR_le hf, fun c h1 h2 => ?_, hg, fun x hx => ?_, fun c z h1 h2 => ?_⟩,
  ⟨fun c B' hv hc => ?_, fun c c' z z' hv hv' hc hc' h1 h2 h3 => ?_, fun c z h1 => ?_, sm.base, fun c hc => ?_, by show cx.cut ≤ S'.n + 1; omega⟩⟩
 ·rw [get_new, if_neg (by omega)]; exact ev.keep c hc hnl
 ·rw [get_new, if_neg (by omega)]; exact ev.dead c hc hd
 ·by_cases hbn : c = S.n
  ·subst hbn; exact ⟨Nat.le_refl _, by show S.n < S'.n + 1; omega⟩
  ·rw [setR_ne _ hbn] at h2; exact absurd h1 h2
 ·rcases ev.frame x hx with h1 | ⟨c, z, h1, h2, h3⟩
  ·exact .inl h1
  ·exact .inr ⟨c, z, setR_le hf _ _ h1, h2, h3.imp (fun h => h) (fun h => ⟨h.1, by show c < S'.n + 1; omega⟩)⟩
 ·by_cases hbn' : c = S.n
  ·subst hbn'
   rw [setR_same] at h2; injection h2 with h2; subst h2
   refine .inr ⟨b, y, hy, rfl, ?_, ?_⟩
   ·rw [get_new, if_neg (by omega), hget, if_pos rfl]
   ·rcases Nat.lt_or_ge b cx.cut with h2 | h2
    ·exact .inl ⟨by show b ∈ S'.log; rw [hl]; exact wrote_mem h2, h2⟩
    ·exact .inr ⟨h2, hbn⟩
  ·rw [setR_ne _ hbn', h1] at h2; cases h2
 ·rw [get_new] at hc
  by_cases hbn : c = S'.n
  ·rw [if_pos hbn] at hc; injection hc with hc; subst hc
   exact ⟨(y.1, sh), by rw [hbn, hn]; exact setR_same _ _ _, hB⟩
  ·rw [if_neg hbn] at hc
   obtain ⟨z, h1, h2⟩ := sm.blk c B' hv hc
   exact ⟨z, setR_le hf _ _ h1, h2.mono (setR_le hf) (Gro.refl _) rfl⟩
 ·rw [get_new] at hc hc'
  have other : ∀ d z, cx.vis d = true → d ≠ S'.n → S'.get d ≠ none → setR ρ S.n (y.1, sh) d = some z → z.1 ≠ y.1 := fun d z hv hd hl h1 h2 => by
   rw [setR_ne _ (by omega)] at h1
   have hdb : d ≠ b := fun e => by rw [e, hget, if_pos rfl] at hl; exact hl rfl
   rw [hget, if_neg hdb] at hl
   exact hdb (hs.inj d b z y hv hvb hl (by rw [hb]; simp) h1 hy h2)
  by_cases hbn : c = S'.n <;> by_cases hbn' : c' = S'.n
  ·rw [hbn, hbn']
  ·rw [if_neg hbn'] at hc'
   rw [hbn, hn, setR_same] at h1; injection h1 with h1
   subst h1; exact absurd h3.symm (other c' z' hv' hbn' hc' h2)
  ·rw [if_neg hbn] at hc
   rw [hbn', hn, setR_same] at h2; injection h2 with h2
   subst h2; exact absurd h3 (other c z hv hbn hc h1)
  ·rw [if_neg hbn] at hc; rw [if_neg hbn'] at hc'
   rw [setR_ne _ (by omega)] at h1 h2
   exact sm.inj c c' z z' hv hv' hc hc' h1 h2 h3
 ·by_cases hbn : c = S.n
  ·subst hbn; rw [setR_same] at h1; injection h1 with h1; subst h1; exact sm.rng b y hy
  ·rw [setR_ne _ hbn] at h1; exact sm.rng c z h1
 ·rw [get_new] at hc
  by_cases hbn : c = S'.n
  ·subst hbn; exact Nat.lt_succ_self _
  ·rw [if_neg hbn] at hc; exact Nat.lt_succ_of_lt (sm.bnd c hc)
end
end
end Go.Proofs.Ytjoniingnbmljaa
