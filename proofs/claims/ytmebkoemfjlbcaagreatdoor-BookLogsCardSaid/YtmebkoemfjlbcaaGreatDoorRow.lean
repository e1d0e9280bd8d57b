/- From the row's arguments to readings: what is read as data reads as a value of a plain type; each argument reads as before behind a call that leaves all alone. No program is named here. -/
import Derived.Test.YtmebkoemfjlbcaaGreatDoorYes
import Derived.ProofKit
import Derived.OpenShut
import Derived.Carry
namespace Go.Proofs.YtmebkoemfjlbcaaGreatDoor
open Go.ChangeShapes Go.WideShapes Go.ChangeAt Go.RowKit

def Ys (w : World) : Nat → Nat := fun b => match w.heap[b]? with
 | some (.cells cs _ _) => cs.size
 | _ => 0
theorem Vv {w : World} {b off : Nat} {c : Value} (h : w.cell? ⟨b, off, none⟩ = some c) : b < w.heap.size ∧ off < Ys w b := by
 unfold World.cell? at h
 unfold Ys
 split at h
 ·rename_i cs t fr hb
  simp only at hb
  rw [hb]
  refine ⟨(Array.getElem?_eq_some_iff.1 hb).1, ?_⟩
  simp only at h ⊢
  exact (Array.getElem?_eq_some_iff.1 h).1
 ·cases h

structure J9 (P : Program) (t : TypeId) (α : Type) [GoT α] (ok : α → Prop) : Prop where
 cells : P.cellsOf t = GoT.k α
 op : ∀ {H : Type} {enc : TypeId × Value → H} {w : World} {base : Nat} {spare : Nat → Bool} {held : Bool} {fuel : Nat} {cs : List Value} {x : DataW H × List MemPlace},
  DataW.trod enc P w base spare held fuel t cs = some x → ∃ a : α, GoT.rep (Ys w) w a cs ∧ ok a
 val : ∀ {w : World} {r : Reach} {b : Nat} {v : Value}, Value.okWide P w r b t v → v = toV (GoT.agg α) v.cells.toList
section
variable {P : Program} {t e : TypeId}

theorem Du {agg : Bool} (hagg : agg = false) {ty : TypeDesc} (ht : P.underlying t = some ty) (hty : (match ty with | .struct _ | .array _ _ => false | _ => true) = true) {w : World} {r : Reach} {b : Nat} {v : Value} (h : Value.okWide P w r b t v) (hne : ∀ cs, ¬ Cell.okWide P w r b t (.agg cs)) : v = toV agg v.cells.toList := by
 subst hagg
 have h' : Cell.okWide P w r b t v := by
  unfold Value.okWide at h
  rw [ht] at h
  cases ty <;> first | exact h | cases hty
 cases v <;> first | rfl | exact absurd h' (hne _)
theorem Pp (ht : P.underlying t = some (.int .i64)) (hc : P.cellsOf t = 1) : J9 P t Int (fun n => -9223372036854775808 ≤ n ∧ n ≤ 9223372036854775807) :=
  ⟨hc, fun h => by
    obtain ⟨n, rfl, rfl, hw⟩ := DataW.trod_int ht h
    refine ⟨n, rfl, ?_⟩
    simp only [Lit.wf, Bool.and_eq_true, decide_eq_true_eq, IntKind.min, IntKind.max, IntKind.signed, IntKind.bits] at hw
    simp at hw
    omega,
   fun h => Du rfl ht rfl h fun cs hh => by simp [Cell.okWide, Cell.ok, ht] at hh⟩
theorem P6 (ht : P.underlying t = some (.int .u8)) (hc : P.cellsOf t = 1) : J9 P t UInt8 (fun _ => True) :=
  ⟨hc, fun h => by
    obtain ⟨n, rfl, rfl, hw⟩ := DataW.trod_int ht h
    simp only [Lit.wf, Bool.and_eq_true, IntKind.min, IntKind.max, IntKind.signed, IntKind.bits] at hw
    simp at hw
    refine ⟨UInt8.ofNat n.toNat, ?_, trivial⟩
    show _ = [Value.int .u8 _]
    rw [show (UInt8.ofNat n.toNat).toNat = n.toNat from by simp; omega]
    congr 2; omega,
   fun h => Du rfl ht rfl h fun cs hh => by simp [Cell.okWide, Cell.ok, ht] at hh⟩
theorem Mv {w : World} {base : Nat} {a : Addr} {n : Nat} {cs : List Value} (h : w.cells? base a n = some cs) : cs.length = n ∧ ∀ j, j < n → w.cell? (a.add j) = cs[j]? := by
 unfold World.cells? at h
 split at h
 ·refine ⟨by simpa using mapM_some_length h, fun j hj => ?_⟩
  exact mapM_some_get h j j (by simp [hj])
 ·cases h
theorem L3 (b off x y : Nat) : ((⟨b, off, none⟩ : Addr).add x).add y = ⟨b, off + x + y, none⟩ := by
 unfold Addr.add
 by_cases hx : x = 0 <;> by_cases hy : y = 0 <;> simp [hx, hy]
theorem Xm {α : Type} [GoT α] {ok : α → Prop} (he : J9 P e α ok) (ht : P.underlying t = some (.slice e)) (hc : P.cellsOf t = 1) (hpos : 0 < GoT.k α) : J9 P t (List α) (fun xs => xs.length ≤ 9223372036854775807 ∧ ∀ x ∈ xs, ok x) :=
  ⟨hc, fun {H enc w base spare held fuel cs x} h => by
    rcases DataW.trod_slice ht h with ⟨rfl, rfl⟩ | ⟨a, len, cap, elems, rest, n, rfl, rfl, rfl, hb, hl, hm, hlen, hel, _, _⟩
    · exact ⟨[], ⟨none, 0, rfl, Nat.le_refl _, fun h => absurd h (by simp)⟩, by simp, fun _ h => by cases h⟩
    · have hone : ∀ i, i < len → ∃ (y : α) (c : List Value), GoT.rep (Ys w) w y c ∧ ok y ∧ c.length = GoT.k α ∧ ∀ j, j < GoT.k α → w.cell? ((a.add (i * GoT.k α)).add j) = c[j]? := fun i hi => by
        have h1 := hel i hi
        rw [List.getElem?_eq_getElem (by omega)] at h1
        obtain ⟨c, hc1, hc2⟩ := Option.bind_eq_some_iff.1 h1
        obtain ⟨hcl, hcc⟩ := Mv hc1
        rw [he.cells] at hcl
        rw [he.cells] at hcc
        obtain ⟨y, hy, hok⟩ := he.op hc2
        exact ⟨y, c, hy, hok, hcl, hcc⟩
      have hall : ∀ k, k ≤ len → ∃ xs : List α, xs.length = k ∧ ∀ i y, xs[i]? = some y → ∃ c, GoT.rep (Ys w) w y c ∧ ok y ∧ c.length = GoT.k α ∧ ∀ j, j < GoT.k α → w.cell? ((a.add (i * GoT.k α)).add j) = c[j]? := by
        intro k
        induction k with
        | zero => exact fun _ => ⟨[], rfl, fun i y h => by simp at h⟩
        | succ k ih =>
          intro hk
          obtain ⟨xs, hx, hxs⟩ := ih (by omega)
          obtain ⟨y, c, hy⟩ := hone k (by omega)
          refine ⟨xs ++ [y], by simp [hx], fun i z hz => ?_⟩
          by_cases hik : i < k
          · rw [List.getElem?_append_left (by omega)] at hz
            exact hxs i z hz
          · have : i = k := by
              have := (List.getElem?_eq_some_iff.1 hz).1
              simp at this; omega
            subst this
            rw [List.getElem?_append_right (by omega), hx] at hz
            simp at hz
            subst hz
            exact ⟨c, hy⟩
      obtain ⟨xs, hx, hxs⟩ := hall len (Nat.le_refl _)
      refine ⟨xs, ⟨some a, cap, by rw [hx], by omega, fun hp => ?_⟩, ?_, fun y hy => ?_⟩
      · obtain ⟨b, off, sub⟩ := a
        have hsub : sub = none := by
          obtain ⟨y, c, _, _, hcl, hcc⟩ := hone 0 (by omega)
          have := hcc 0 hpos
          rw [List.getElem?_eq_getElem (by omega), Nat.zero_mul] at this
          cases sub with
          | none => rfl
          | some i =>
            simp only [Addr.add, if_true, World.cell?] at this
            split at this <;> simp at this
        subst hsub
        have hcell : ∀ i, i < len → ∀ j, j < GoT.k α → ∃ v, w.cell? ⟨b, off + i * GoT.k α + j, none⟩ = some v := fun i hi j hj => by
          obtain ⟨y, c, _, _, hcl, hcc⟩ := hone i hi
          have := hcc j hj
          rw [List.getElem?_eq_getElem (by omega), L3] at this
          exact ⟨_, this⟩
        have hlast := Vv (hcell (len - 1) (by omega) (GoT.k α - 1) (by omega)).choose_spec
        refine ⟨b, off, rfl, hlast.1, ?_, fun i y hy => ?_⟩
        · have h2 := hlast.2
          have h3 : len * GoT.k α = (len - 1) * GoT.k α + GoT.k α := by
            obtain ⟨q, rfl⟩ : ∃ q, len = q + 1 := ⟨len - 1, by omega⟩
            rw [Nat.add_sub_cancel, Nat.add_mul]; omega
          rw [hx, h3]
          omega
        · obtain ⟨c, hr, _, hcl, hcc⟩ := hxs i y hy
          refine ⟨c, hr, fun j v hj => ?_⟩
          have hj' : j < c.length := (List.getElem?_eq_some_iff.1 hj).1
          have := hcc j (by omega)
          rw [hj, L3] at this
          exact this
      · have : cap ≤ 9223372036854775807 := by simpa [maxLen] using hm
        omega
      · obtain ⟨i, hi, rfl⟩ := List.getElem_of_mem hy
        obtain ⟨c, _, hok, _⟩ := hxs i _ (List.getElem?_eq_getElem hi)
        exact hok,
   fun h => Du rfl ht rfl h fun cs hh => by simp [Cell.okWide, Cell.ok, ht] at hh⟩

def Rf (P : Program) (fs : List Field) (off : Nat) (β : Type) [GoT β] (ok : β → Prop) : Prop :=
 ∀ {H : Type} {enc : TypeId × Value → H} {w : World} {base : Nat} {spare : Nat → Bool} {held : Bool} {n : Nat} {cs : List Value},
  (∀ f ∈ fs, ∃ x, DataW.trod enc P w base spare held n f.type ((cs.drop f.offset).take (P.cellsOf f.type)) = some x) → cs.length = off + GoT.k β → ∃ a : β, GoT.rep (Ys w) w a (cs.drop off) ∧ ok a
theorem C9 {α : Type} [GoT α] {ok : α → Prop} {f : Field} {off : Nat} (ho : f.offset = off) (h : J9 P f.type α ok) : Rf P [f] off α ok := fun hf hl => by
 obtain ⟨x, hx⟩ := hf f (List.mem_singleton.2 rfl)
 rw [ho, h.cells, List.take_of_length_le (by rw [List.length_drop]; omega)] at hx
 exact h.op hx
theorem J1 {α β : Type} [GoT α] [GoT β] {ok : α → Prop} {ok' : β → Prop} {f : Field} {fs : List Field} {off off' : Nat} (ho : f.offset = off) (ho' : off + GoT.k α = off') (h : J9 P f.type α ok) (h' : Rf P fs off' β ok') :
  Rf P (f :: fs) off (α × β) (fun x => ok x.1 ∧ ok' x.2) := fun {H enc w base spare held n cs} hf hl => by
 obtain ⟨x, hx⟩ := hf f List.mem_cons_self
 rw [ho, h.cells] at hx
 obtain ⟨a, ha, hok⟩ := h.op hx
 obtain ⟨b, hb, hok'⟩ := h' (fun g hg => hf g (List.mem_cons_of_mem _ hg)) (by rw [hl, ← ho']; show off + (GoT.k α + GoT.k β) = _; omega)
 refine ⟨(a, b), ⟨_, _, ?_, ha, hb⟩, hok, hok'⟩
 rw [← ho', ← List.drop_drop, List.take_append_drop]
theorem Su {α β : Type} [ia : GoT α] [GoT β] {ok : β → Prop} {fs : Array Field} (to : α → β) (hk : GoT.k α = GoT.k β) (hagg : GoT.agg α = true) (hrep : ∀ m w (x : α) cs, GoT.rep m w (to x) cs → GoT.rep m w x cs) (hto : ∀ b, ∃ a, to a = b)
    (ht : P.underlying t = some (.struct fs)) (hc : P.cellsOf t = GoT.k β) (hf : Rf P fs.toList 0 β ok) : J9 P t α (fun x => ok (to x)) :=
  ⟨hc.trans hk.symm, fun h => by
    obtain ⟨xs, n, rfl, rfl, hl, hlen, hfs⟩ := DataW.trod_struct ht h
    obtain ⟨b, hb, hok⟩ := hf (n := n) (fun f hm => by
      obtain ⟨i, hi, rfl⟩ := List.getElem_of_mem hm
      have := hfs i _ (Array.getElem?_eq_getElem (by simpa using hi))
      rw [List.getElem?_eq_getElem (by simpa [hlen] using hi)] at this
      exact ⟨_, this⟩) (by rw [hl, hc, Nat.zero_add])
    obtain ⟨a, rfl⟩ := hto b
    exact ⟨a, hrep _ _ _ _ (by simpa using hb), hok⟩,
   fun h => by
    unfold Value.okWide at h
    rw [ht] at h
    obtain ⟨cs, rfl, _⟩ := h
    rw [hagg]; rfl⟩
theorem Mc {α : Type} [GoT α] {ok : α → Prop} (ho : J9 P t α ok) {H : Type} {enc : TypeId × Value → H} {w : World} {r : Reach} {b base : Nat} {spare : Nat → Bool} {held : Bool} {v : Value} {d : DataW H} {ps : List MemPlace}
  (hval : Value.okWide P w r b t v) (h : DataW.Trod enc P w base spare held t v d ps) : ∃ a : α, RV (Ys w) w a v ∧ ok a := by
 obtain ⟨fuel, h⟩ := h
 obtain ⟨a, ha, hok⟩ := ho.op h
 exact ⟨a, ⟨_, ha, ho.val hval⟩, hok⟩
end
theorem U1 {P : Program} {H : Type} {enc : TypeId × Value → H} (hl : laidOutB P = true) {W W' : World} (hb : Below W.heap.size W W') {sp : Nat → Bool} : ∀ {ts : List TypeId} {vs : List Value} {ds : List (DataW H)} {ps : List MemPlace},
  (∀ t ∈ ts, P.readableRec t = true ∧ t < P.types.size) → DataW.TrodAll enc P W 0 (fun _ => true) true ts vs ds ps → (∀ p ∈ ps, p.block < W.heap.size ∧ sp p.block = true) → DataW.TrodAll enc P W' 0 sp true ts vs ds ps
 | [], _, _, _, _, h, _ => by
  obtain ⟨rfl, rfl, rfl⟩ := trodAll_nil h
  exact trodAll_mk0
 | t :: ts, _, _, _, hr, h, hp => by
  obtain ⟨v, vs, d, ds, p, q, rfl, rfl, rfl, h1, h2⟩ := trodAll_cons h
  have hrt := hr t List.mem_cons_self
  refine trodAll_cons_mk ?_ (U1 hl hb (fun t ht => hr t (List.mem_cons_of_mem _ ht)) h2 fun x hx => hp x (List.mem_append_right _ hx))
  exact WideElems.Trod_stays hl hrt.1 hrt.2 h1 (fun x hx => hb.same (hp x (List.mem_append_left _ hx)).1) (fun x hx => (hp x (List.mem_append_left _ hx)).2)
theorem Ai {P : Program} {H : Type} {enc : TypeId × Value → H} {f : Func} {s : ChangeSpec} {W W' : World} {args : Array Value} {ds gs : List (DataW H)} {before : List MemPlace} {tb : TypeId}
  (hW : DataW.Whole enc P f.params.toList s.vars false W args.toList ds gs before) (hl : laidOutB P = true) (hr : ∀ t ∈ f.params.toList, P.readableRec t = true ∧ t < P.types.size) (hv : s.vars = []) (hrt : f.resultTypes = #[tb]) (htb : P.underlying tb = some .bool)
  (hfn : (s.fn H (ds ++ gs)).results = [.lit (.bool true)] ∧ (s.fn H (ds ++ gs)).args = ds ∧ (s.fn H (ds ++ gs)).vars = []) (hb : Below W.heap.size W W') : s.post enc P f false true false false W args (.bool true) W' := by
 have hlt : ∀ p ∈ before, p.block < W.heap.size := fun p hp => hW.lt p hp
 have hW' := hW
 obtain ⟨p, q, hA, hV, rfl, _, _⟩ := hW'
 obtain ⟨h1, h2, h3⟩ := hfn
 rw [hv] at hV
 obtain ⟨rfl, rfl⟩ := trodVars_none hV
 refine ⟨ds, [], p ++ [], [], p, [], hW, ?_, ?_, ?_, hb.frame _, fun h => nomatch h⟩
 ·rw [h1, hrt]
  exact trodAll_mk1 (shut_bool htb true)
 ·rw [h2]
  exact U1 hl hb hr hA fun x hx => ⟨hlt x (by simpa using hx), by simpa using hlt x (by simpa using hx)⟩
 ·rw [h3, hv]
  exact rfl
def Says (P : Program) (f : FuncId) (vs : Array Value) (w : World) : Prop := Calls P f vs w fun e w' => e = .returned (.bool true) ∧ Below w.heap.size w w'
end Go.Proofs.YtmebkoemfjlbcaaGreatDoor
