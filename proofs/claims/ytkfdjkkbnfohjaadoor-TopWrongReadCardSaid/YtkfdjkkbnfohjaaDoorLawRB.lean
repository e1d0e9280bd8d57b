/- Plain laws: the fewest hooks. -/
import Derived.Test.YtkfdjkkbnfohjaaDoorLawRA
set_option maxRecDepth 8000
namespace Go.Proofs.YtkfdjkkbnfohjaaDoor
open Go.RowKit
open Classical

section
variable {κ β : Type} [DecidableEq κ] [DecidableEq β]
def ins (ks : List κ) (k : κ) : List κ := if k ∈ ks then ks else ks ++ [k]
theorem ins_in {ks : List κ} {k : κ} (h : k ∈ ks) : ins ks k = ks := if_pos h
theorem ins_out {ks : List κ} {k : κ} (h : ¬ k ∈ ks) : ins ks k = ks ++ [k] := if_neg h
theorem ins_mem {ks : List κ} {k x : κ} : x ∈ ins ks k ↔ x ∈ ks ∨ x = k := by
 unfold ins
 split
 ·exact ⟨.inl, fun h => h.elim id fun e => e ▸ (by assumption)⟩
 ·simp
theorem ins_nodup {ks : List κ} {k : κ} (h : ks.Nodup) : (ins ks k).Nodup := by
 unfold ins
 split
 ·exact h
 ·rename_i hk
  exact List.nodup_append.2 ⟨h, by simp, fun a ha b hb e => hk (by rw [List.mem_singleton.1 hb] at e; exact e ▸ ha)⟩
theorem ded_mem {x : κ} : ∀ {L ks : List κ}, x ∈ L.foldl ins ks ↔ x ∈ ks ∨ x ∈ L
 | [], ks => by simp
 | a :: L, ks => by rw [List.foldl_cons, ded_mem, ins_mem, List.mem_cons]; exact ⟨fun h => by rcases h with (h | h) | h <;> simp [h], fun h => by rcases h with h | h | h <;> simp [h]⟩
theorem ded_nodup : ∀ {L ks : List κ}, ks.Nodup → (L.foldl ins ks).Nodup
 | [], _, h => h
 | _ :: L, _, h => ded_nodup (L := L) (ins_nodup h)
theorem ded_snoc (L : List κ) (k : κ) (ks : List κ) : (L ++ [k]).foldl ins ks = ins (L.foldl ins ks) k := by rw [List.foldl_append]; rfl
theorem ded_map {f : β → κ} {S : β → Prop} (hf : ∀ a b, S a → S b → f a = f b → a = b) : ∀ {L ks : List β}, (∀ a ∈ ks, S a) → (∀ a ∈ L, S a) → (L.map f).foldl ins (ks.map f) = (L.foldl ins ks).map f
 | [], _, _, _ => rfl
 | a :: L, ks, h1, h2 => by
  have ha := h2 a (by simp)
  have e : ins (ks.map f) (f a) = (ins ks a).map f := by
   unfold ins
   by_cases h : a ∈ ks
   ·rw [if_pos h, if_pos (List.mem_map_of_mem h)]
   ·rw [if_neg h, if_neg fun hm => by
     obtain ⟨b, hb, he⟩ := List.mem_map.1 hm
     exact h (hf b a (h1 b hb) ha he ▸ hb)]
    simp
  rw [List.map_cons, List.foldl_cons, List.foldl_cons, e]
  exact ded_map hf (fun b hb => by rcases ins_mem.1 hb with h | rfl; exact h1 b h; exact ha) (fun b hb => h2 b (List.mem_cons_of_mem _ hb))
theorem nodup_img (g : Nat → κ) : ∀ (n : Nat) (K : List κ), K.Nodup → (∀ c ∈ K, ∃ k, k < n ∧ g k = c) → K.length ≤ n
 | 0, K, _, h => by
  cases K with
  | nil => simp
  | cons a K => obtain ⟨k, hk, _⟩ := h a (by simp); exact absurd hk (Nat.not_lt_zero _)
 | n + 1, K, hd, h => by
  by_cases hm : g n ∈ K
  ·have h1 := nodup_img g n (K.erase (g n)) (hd.erase _) fun c hc => by
    have h2 := (hd.mem_erase_iff).1 hc
    obtain ⟨k, hk, e⟩ := h c h2.2
    have : k ≠ n := fun e2 => h2.1 (by rw [← e, e2])
    exact ⟨k, by omega, e⟩
   rw [List.length_erase_of_mem hm] at h1
   omega
  ·have h1 := nodup_img g n K hd fun c hc => by
    obtain ⟨k, hk, e⟩ := h c hc
    have : k ≠ n := fun e2 => hm (by rw [← e2, e]; exact hc)
    exact ⟨k, by omega, e⟩
   omega
theorem mget_at {ν : Type} {k : κ} {m : List (κ × ν)} (h : k ∈ m.map (·.1)) : ∃ j, ∃ hj : j < m.length, m[j].1 = k ∧ mget m k = some m[j].2 := by
 obtain ⟨p, hp, he⟩ := List.mem_map.1 h
 obtain ⟨q, hq⟩ : ∃ q, m.find? (fun p => decide (p.1 = k)) = some q := by
  rw [← Option.isSome_iff_exists, List.find?_isSome]
  exact ⟨p, hp, by simpa using he⟩
 obtain ⟨j, hj, e⟩ := List.getElem_of_mem (List.mem_of_find?_eq_some hq)
 refine ⟨j, hj, by rw [e]; simpa using List.find?_some hq, ?_⟩
 unfold mget
 rw [hq, e]; rfl
end
def bl (rows : List Int) (k : Int) : List Bool := rows.map fun r => bit r k
def cs (b : List Bool) : Str := ⟨b.map mk⟩
theorem map_mk_inj : ∀ {x y : List Bool}, x.map mk = y.map mk → x = y
 | [], [], _ => rfl
 | [], _ :: _, h => by simp at h
 | _ :: _, [], h => by simp at h
 | a :: x, b :: y, h => by
  simp only [List.map_cons, List.cons.injEq] at h
  rw [mk_inj h.1, map_mk_inj h.2]
theorem cs_inj {x y : List Bool} (h : cs x = cs y) : x = y := map_mk_inj (congrArg Str.b h)
theorem g104 {W rows : List Int} {w : Nat} (hw : w < W.length) (hr : 1 ≤ rows.length ∧ rows.length ≤ 10) : f104 (wv W rows) (w : Int) = some (cs (bl rows W[w])) := by
 have hl : (wv W rows).length = rows.length := by simp [wv]
 refine Yes.eq ?_
 unfold f104
 refine Yes.bind (Yes.mono (Q' := fun s => s = (bl rows W[w]).map mk) ?_ fun s hs => ?_)
 ·refine Yes.upto rows.length (by omega) (fun i s => s = (bl (rows.take i) W[w]).map mk) rfl (fun i s k hi hI hk => ?_) (fun s k hI => qskip (decide_eq_false (by rw [hl]; omega)) (Yes.some (by rw [hI, List.take_length])))
  have hsl : s.length = i := by rw [hI]; simp [bl]; omega
  have hi2 : i < (wv W rows).length := by omega
  have e1 : (wv W rows)[i] = ln W rows[i] := by simp [wv]
  have hwl : w < (ln W rows[i]).b.length := by rw [ln_len]; exact hw
  refine qtake (decide_eq_true (by rw [hl]; omega)) (Yes.bind (qbind _ (qidx hi2) ?_))
  rw [e1]
  refine qbind _ (qidx hwl) (Yes.bind (Yes.apnd (by rw [hsl]; simp; omega) (by rw [hsl]; simp; omega) (Yes.some (hk _ ?_))))
  have eb : (ln W rows[i]).b[w] = mk (bit rows[i] W[w]) := by simp [ln]
  rw [hI, eb, take_succ hi]
  unfold bl
  rw [List.map_append, List.map_append]
  rfl
 ·subst hs
  have : sbstr ((bl rows W[w]).map mk) = some (cs (bl rows W[w])) := by
   unfold sbstr
   rw [if_neg fun e => by have := congrArg List.length e; rw [List.length_map, bl, List.length_map, List.length_nil] at this; omega]
   rfl
  exact qbind _ this (Yes.some rfl)
structure Few (W rows : List Int) (h : TieHarness) : Prop where
 hooks : h.Hooks = (((W.map (bl rows)).foldl ins []).length : Int)
 len : h.Warps.length = W.length
 at_ : ∀ w (h1 : w < h.Warps.length) (h2 : w < W.length), ∃ j : Nat, h.Warps[w] = j ∧ ((W.map fun k => cs (bl rows k)).foldl ins [])[j]? = some (cs (bl rows W[w]))
theorem ded_cs (W rows : List Int) : ((W.map fun k => cs (bl rows k)).foldl ins []) = ((W.map (bl rows)).foldl ins []).map cs := by
 have h := ded_map (f := cs) (S := fun _ => True) (fun a b _ _ e => cs_inj e) (L := W.map (bl rows)) (ks := []) (by simp) (by simp)
 rw [← h]
 simp [List.map_map, Function.comp_def]
theorem g54 {W rows : List Int} (hw : 1 ≤ W.length ∧ W.length ≤ 96) (hr : 1 ≤ rows.length ∧ rows.length ≤ 10) (hK : ∀ L : List Int, (∀ a ∈ L, a ∈ W) → ((L.map (bl rows)).foldl ins []).length ≤ 13) :
  Yes (f54 (wv W rows)) (fun r => r.2 = 0 ∧ Few W rows r.1) := by
 have hl : (wv W rows).length = rows.length := by simp [wv]
 have hfew := hK W fun a h => h
 have hdl : ((W.map fun k => cs (bl rows k)).foldl ins []).length = ((W.map (bl rows)).foldl ins []).length := by rw [ded_cs, List.length_map]
 unfold f54
 have h0 : 0 < (wv W rows).length := by omega
 have e0 : (wv W rows)[0].b.length = W.length := by simp [wv, ln]
 refine Yes.bind (qtake (decide_eq_true (by rw [hl]; omega)) (qbind _ (qidx (i := 0) h0) (Yes.some ?_)))
 rw [e0]
 refine Yes.jn (qbind _ (g103 hw hr) (qskip rfl ?_))
 let C : List Str := W.map fun k => cs (bl rows k)
 have hCl : C.length = W.length := by simp [C]
 have hCat : ∀ w (h : w < C.length) (h2 : w < W.length), C[w] = cs (bl rows W[w]) := fun w h h2 => by simp [C]
 refine Yes.bind (Yes.mono (Q' := fun r => r.1.Warps.length = W.length ∧ r.2.map (·.1) = C.foldl ins [] ∧ ∀ w (h1 : w < r.1.Warps.length) (h2 : w < C.length), ∃ j : Nat, r.1.Warps[w] = j ∧ (C.foldl ins [])[j]? = some C[w]) ?_ fun r hr2 => ?_)
 ·refine Yes.upto2 W.length (by omega) (fun i h m => h.Warps.length = i ∧ m.map (·.1) = (C.take i).foldl ins [] ∧ (∀ j (hj : j < m.length), m[j].2 = (j : Int)) ∧ ∀ w (h1 : w < h.Warps.length) (h2 : w < C.length), ∃ j : Nat, h.Warps[w] = j ∧ ((C.take i).foldl ins [])[j]? = some C[w])
   ⟨rfl, rfl, fun j hj => absurd hj (Nat.not_lt_zero _), fun w h1 => absurd h1 (Nat.not_lt_zero _)⟩ (fun i h m k hi hI hk => ?_) (fun h m k hI => ?_)
  ·obtain ⟨i1, i2, i3, i4⟩ := hI
   have hiC : i < C.length := by omega
   have hml : m.length = ((C.take i).foldl ins []).length := by rw [← i2, List.length_map]
   have hmle : m.length ≤ 13 := by
    have hsub : ((C.take i).foldl ins []).length ≤ 13 := by
     have e : C.take i = (W.take i).map fun k => cs (bl rows k) := by simp [C, List.map_take]
     rw [e, ded_cs, List.length_map]
     exact hK _ fun a ha => List.mem_of_mem_take ha
    omega
   have hnext : (C.take (i + 1)).foldl ins [] = ins ((C.take i).foldl ins []) C[i] := by rw [take_succ hiC, ded_snoc]
   refine qtake (decide_eq_true (by omega)) (Yes.bind (qbind _ (g104 hi hr) ?_))
   rw [← hCat i hiC hi]
   have key : ∀ (m' : List (Str × Int)) (j : Nat), m'.map (·.1) = (C.take (i + 1)).foldl ins [] → (∀ j (hj : j < m'.length), m'[j].2 = (j : Int)) → ((C.take (i + 1)).foldl ins [])[j]? = some C[i] →
     (∀ (q : Nat) c, ((C.take i).foldl ins [])[q]? = some c → ((C.take (i + 1)).foldl ins [])[q]? = some c) →
     Yes ((apnd 8 h.Warps [(j : Int)]).bind fun y91 => some ({ h with Warps := y91 }, m')) (fun r => Yes (k (r.1, r.2, w64 ((i : Int) + 1))) fun r => r.1.Warps.length = W.length ∧ r.2.map (·.1) = C.foldl ins [] ∧ ∀ w (h1 : w < r.1.Warps.length) (h2 : w < C.length), ∃ j : Nat, r.1.Warps[w] = j ∧ (C.foldl ins [])[j]? = some C[w]) := fun m' j k1 k2 k3 k4 => by
    refine Yes.bind (Yes.apnd (by rw [i1]; simp; omega) (by rw [i1]; simp; omega) (Yes.some (hk _ _ ⟨by show (h.Warps ++ [(j : Int)]).length = _; rw [List.length_append, i1]; rfl, k1, k2, fun w h1 h2 => ?_⟩)))
    have h1 : w < (h.Warps ++ [(j : Int)]).length := h1
    by_cases hwi : w < h.Warps.length
    ·obtain ⟨q, q1, q2⟩ := i4 w hwi h2
     exact ⟨q, by show (h.Warps ++ [(j : Int)])[w] = _; rw [List.getElem_append_left hwi]; exact q1, k4 _ _ q2⟩
    ·have hwe : w = i := by rw [List.length_append] at h1; simp at h1; omega
     subst hwe
     refine ⟨j, ?_, k3⟩
     show (h.Warps ++ [(j : Int)])[w] = _
     rw [List.getElem_append_right (by omega)]; simp
   by_cases hin : C[i] ∈ m.map (·.1)
   ·obtain ⟨j, hj, j1, j2⟩ := mget_at hin
    have hin2 : C[i] ∈ (C.take i).foldl ins [] := by rw [← i2]; exact hin
    have hsame : (C.take (i + 1)).foldl ins [] = (C.take i).foldl ins [] := by rw [hnext, ins_in hin2]
    refine Yes.bind (qskip (by rw [j2]; rfl) (Yes.some ?_))
    rw [j2, Option.getD_some, i3 j hj]
    refine key m j (by rw [hsame]; exact i2) i3 ?_ (fun q c h => by rw [hsame]; exact h)
    rw [hsame, ← i2, List.getElem?_map, List.getElem?_eq_getElem hj, Option.map_some, j1]
   ·have hno := mget_none hin
    have hin2 : ¬ C[i] ∈ (C.take i).foldl ins [] := by rw [← i2]; exact hin
    have hsame : (C.take (i + 1)).foldl ins [] = (C.take i).foldl ins [] ++ [C[i]] := by rw [hnext, ins_out hin2]
    refine Yes.bind (qtake (by rw [hno]; rfl) (Yes.some ?_))
    rw [mset_new hin]
    refine key (m ++ [(C[i], (m.length : Int))]) m.length (by rw [hsame, List.map_append, i2]; rfl) (fun j hj => ?_) ?_ (fun q c h => ?_)
    ·by_cases hjm : j < m.length
     ·rw [List.getElem_append_left hjm]; exact i3 j hjm
     ·have : j = m.length := by rw [List.length_append] at hj; simp at hj; omega
      subst this; simp
    ·rw [hsame, hml, List.getElem?_append_right (Nat.le_refl _)]; simp
    ·rw [hsame, List.getElem?_append_left (List.getElem?_eq_some_iff.1 h).1]; exact h
  ·obtain ⟨i1, i2, i3, i4⟩ := hI
   rw [← hCl, List.take_length] at i2 i4
   exact qskip (decide_eq_false (by omega)) (Yes.some ⟨i1, i2, i4⟩)
 ·obtain ⟨r1, r2, r3⟩ := hr2
  have hN : r.2.length = ((W.map (bl rows)).foldl ins []).length := by rw [← hdl, ← List.length_map (f := (·.1)), r2]
  refine Yes.jn (qskip (decide_eq_false (by show ¬ (r.2.length : Int) > 24; omega)) (Yes.some ⟨rfl, by show (r.2.length : Int) = _; rw [hN], r1, fun w h1 h2 => ?_⟩))
  obtain ⟨j, j1, j2⟩ := r3 w h1 (by omega)
  exact ⟨j, j1, by rw [j2, hCat w (by omega) h2]⟩
end Go.Proofs.YtkfdjkkbnfohjaaDoor
