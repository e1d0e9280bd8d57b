/- LoomStill: the plain law. -/
import Derived.Test.YtnfjhdagbknlbaaLawAN
set_option maxRecDepth 8000
namespace Go.Proofs.Ytnfjhdagbknlbaa
open Go.RowKit
open Classical

theorem s10 (x0 : Hall) (x1 : UInt8) (x2 : Vector UInt8 2) : f10 x0 x1 x2 = some true := by
 obtain ⟨⟨m, l, p⟩, hx, M⟩ := s39 x0
 simp only at M
 have g := good_of M.ok
 have hw3 := g.w3
 have hw1 := g.w1
 have hl7 := g.l7
 have hn := M.n
 obtain ⟨k, hk, hk0, hk1⟩ := rem_nat (a := ((x1.toNat : Nat) : Int)) (b := (m.Widths.length : Int)) (by omega) (by omega)
 have i0 : idx x2.toList (0 : Int) = some (x2.toList[0]'(by simp)) := idx_at (i := 0) (by simp)
 have i1 : idx x2.toList (1 : Int) = some (x2.toList[1]'(by simp)) := idx_at (i := 1) (by simp)
 obtain ⟨a, ha, ha0, ha1⟩ := rem_nat (a := (((x2.toList[0]'(by simp)).toNat : Nat) : Int)) (b := 80) (by omega) (by omega)
 obtain ⟨b, hb, hb0, hb1⟩ := rem_nat (a := (((x2.toList[1]'(by simp)).toNat : Nat) : Int)) (b := 20) (by omega) (by omega)
 refine Yes.eq ?_
 unfold f10
 rw [hx, Option.bind_some]
 refine Yes.bindv _ hk (Yes.bindv _ i0 (Yes.bindv _ ha (Yes.bindv _ i0 (Yes.bindv _ ha (Yes.bindv _ i1 (Yes.bindv _ hb ?_))))))
 have hwab : w64 (a + b) = a + b := w64_id (by omega) (by omega)
 generalize hst : (⟨k, ⟨a, w64 (a + b)⟩⟩ : LoomStop) = st
 have hsl : st.Loom = k := by rw [← hst]
 have hlo : st.Days.Low = a := by rw [← hst]
 have hhi : st.Days.High = a + b := by rw [← hst]; exact hwab
 have hs : 0 ≤ st.Days.Low ∧ st.Days.Low ≤ st.Days.High ∧ st.Days.High ≤ 98 := by omega
 have hE : stillE m l p st = 0 := by
  have h1 : planE m l p = 0 := by unfold planE; rw [if_neg (fun h => h M.ok)]; exact (holds_iff g (by omega) M.seq).2 M.fits
  unfold stillE
  rw [if_neg (fun h => h h1)]
  unfold stopE
  rw [if_neg (by omega), if_neg (by omega)]
 obtain ⟨_, R, _, hs3⟩ := still_ok hE
 obtain ⟨A, hf, hA, hpw⟩ := s68 g R st.Loom
 have hA7 : A.length ≤ 7 := by
  have hnd : A.Nodup := hpw.imp fun {a b} h e => by subst e; exact bef_irr h
  have := nodup_lt _ _ hnd fun x hx => ((hA x).1 hx).1
  omega
 obtain ⟨h34, _⟩ := s34 hE hf hA hA7
 have H := psh M hs hA hpw hA7
 generalize pushL m l st none A p = q at h34 H
 have hqn := H.n
 have h34 : f34 m l p st = some (q, lates l q, 0) := by
  rw [h34]; unfold pushV; rw [if_neg]
  rintro ⟨i, hi, h⟩
  have := H.top i (by omega)
  omega
 have h33 : f33 m l p st = some (stopsV l p st, 0) := by rw [s33 (by omega), if_pos hE]
 have h15 := s15 m (show m.Widths.length ≤ 1000000 by omega)
 have h16 := s16 l (show l.length ≤ 1000000 by omega)
 have h32 := s32 p (show p.length ≤ 1000000 by omega)
 have h32q := s32 q (show q.length ≤ 1000000 by omega)
 have hap := psh_apart M H
 have hho := psh_holds M H
 have h40 : f40 m l q = some (holdsV m l q) := by rw [s40 (by omega), if_neg (fun h => h M.ok)]
 refine Yes.bindv _ h15 (Yes.bindv _ h16 (Yes.bindv _ h32 (Yes.bindv _ h33 (Yes.bindv _ h15 (Yes.bindv _ h16 (Yes.bindv _ h32 (Yes.bindv _ h34 ?_)))))))
 have hlen : ((q.length : Int) != (p.length : Int)) = false := by rw [hqn]; simp
 refine Yes.jn (Yes.bindv false (congrArg some hlen) (skip rfl (Yes.jn ?_)))
 generalize hps : (fun i => decide ((rn p i).Loom = st.Loom ∧ meets l st (rn p i)) : Nat → Bool) = ps
 generalize hvs : (fun i => (rn p i).Order : Nat → Int) = vs
 generalize hpl : (fun i => decide (endR l (rn q i) > (od l (rn q i).Order).Late) : Nat → Bool) = pl
 generalize hvl : (fun i => (rn q i).Order : Nat → Int) = vl
 have hS : stopsV l p st = coll ps vs p.length := by rw [← hps, ← hvs]; rfl
 have hL : lates l q = coll pl vl q.length := by rw [← hpl, ← hvl]; rfl
 rw [hL] at hho
 rw [hS, hL]
 refine Yes.upto2 p.length (by omega) (fun i (s t : Int) => s = ((coll pl vl i).length : Int) ∧ t = ((coll ps vs i).length : Int)) ⟨rfl, rfl⟩ (fun i s t kk hi hI hk' => ?_) (fun s t kk hI => ?_)
 ·obtain ⟨rfl, rfl⟩ := hI
  have hiq : i < q.length := by omega
  have hpi : inB m l (rn p i) := (R.inR i hi).b
  have hqi := psh_in M H hiq
  have hqo := H.seq i hiq
  have hpo := M.seq i hi
  have hbe := endB g hqi
  have hqf := hqi.2.2
  have hpsi : ps i = decide ((rn p i).Loom = st.Loom ∧ meets l st (rn p i)) := by rw [← hps]
  have hpli : pl i = decide (endR l (rn q i) > (od l (rn q i).Order).Late) := by rw [← hpl]
  have hvsi : vs i = (rn p i).Order := by rw [← hvs]
  have hvli : vl i = (rn q i).Order := by rw [← hvl]
  have hcl := coll_len ps vs i
  have hcl2 := coll_len pl vl i
  refine Yes.jn (take (decide_eq_true (Int.ofNat_lt.2 hi)) (Yes.jn ?_))
  refine Yes.bindv _ (idx_rn hi) (Yes.bindv _ (idx_rn hiq) (Yes.jn ?_))
  have hvB : (bif ((rn p i).Order != (rn q i).Order) then some true else bif ((rn p i).Loom != (rn q i).Loom) then some true else bif (decide ((rn q i).From < (rn p i).From)) then some true else bif (decide ((rn q i).From > (1000 : Int))) then some true else
    (f43 (rn q i) st l).bind fun bC => bif bC then some true else bif ((rn p i).Loom != st.Loom) then some (!(decide (rn p i = rn q i))) else some false) = some false := by
   have e1 : ((rn p i).Order != (rn q i).Order) = false := by rw [hqo, hpo]; simp
   have e2 : ((rn p i).Loom != (rn q i).Loom) = false := by rw [H.loom i hi]; simp
   have e3 := H.le i hi
   have e4 := H.top i hi
   rw [e1, e2, decide_eq_false (show ¬ (rn q i).From < (rn p i).From by omega), decide_eq_false (show ¬ (rn q i).From > 1000 by omega), s43 g hqi]
   simp only [cond_false, Option.bind_some]
   by_cases hls : (rn p i).Loom = st.Loom
   ·have := H.still i hi hls
    rw [decide_eq_false (fun h => this h.2)]
    have e5 : ((rn p i).Loom != st.Loom) = false := by simp [hls]
    rw [e5]; rfl
   ·rw [decide_eq_false (fun h => hls (by rw [← H.loom i hi]; exact h.1)), H.out i hi hls]
    simp
  refine Yes.bindv false hvB (skip rfl (Yes.jn ?_))
  have hend : endR l (rn q i) = (rn q i).From + (od l (rn q i).Order).Woven := rfl
  have hw : w64 ((rn q i).From + (od l (rn q i).Order).Woven) = endR l (rn q i) := w64_id (by omega) (by omega)
  have hin1 : ps i = true → _ := fun h => coll_next ps vs hi (by omega) h hvsi
  have hin2 : ps i = true → w64 ((((coll ps vs i).length : Nat) : Int) + 1) = ((coll ps vs (i + 1)).length : Int) := fun h => by rw [(hin1 h).2]; exact w64_id (by omega) (by omega)
  have hin3 : ps i = false → (coll ps vs i).length = (coll ps vs (i + 1)).length := fun h => (coll_skip ps vs h).symm
  have hla1 : pl i = true → _ := fun h => coll_next pl vl hiq (by omega) h hvli
  have hla2 : pl i = true → w64 ((((coll pl vl i).length : Nat) : Int) + 1) = ((coll pl vl (i + 1)).length : Int) := fun h => by rw [(hla1 h).2]; exact w64_id (by omega) (by omega)
  have hla3 : pl i = false → (coll pl vl i).length = (coll pl vl (i + 1)).length := fun h => (coll_skip pl vl h).symm
  have hmB : (bif ((((coll ps vs p.length).length : Nat) : Int) == (0 : Int)) then some (!(decide (rn p i = rn q i))) else some false) = some false := by
   by_cases h0 : (coll ps vs p.length).length = 0
   ·have h1 := coll_nil.1 h0
    have h2 := H.same (fun j hj hls hm => by
     have h3 := h1 j hj
     rw [← hps] at h3
     exact of_decide_eq_false h3 ⟨hls, hm⟩) i hi
    rw [h2]; simp
   ·have : ((((coll ps vs p.length).length : Nat) : Int) == (0 : Int)) = false := by rw [beq_eq_false_iff_ne]; omega
    rw [this]; rfl
  refine Yes.bindv _ (s43 g hpi st) (Yes.cond (fun hc => ?_) (fun hc => ?_))
  all_goals
   rw [← hpsi] at hc
   first
    | (refine Yes.jn (Yes.bindv false (hin1 hc).1 (skip rfl ?_)); rw [hin2 hc])
    | rw [hin3 hc]
  all_goals
   refine Yes.jn (Yes.bindv _ (idx_od hqi.1.1 hqi.1.2) (Yes.bindv _ (idx_od hqi.1.1 hqi.1.2) (Yes.cond (fun hd => ?_) (fun hd => ?_))))
  all_goals
   rw [hw, ← hpli] at hd
   first
    | (refine Yes.jn (Yes.bindv false (hla1 hd).1 (skip rfl ?_)); rw [hla2 hd])
    | rw [hla3 hd]
  all_goals
   refine Yes.jn (Yes.cond (fun he => Yes.bindv _ h32q (Yes.bindv _ (idx_rn hiq) (Yes.bindv _ (idx_rn hiq) (Yes.bindv false (psh_sooner M H hs hi fun e => by rw [e] at he; simp at he) (skip rfl ?_))))) (fun _ => ?_))
  all_goals
   refine Yes.bindv false hmB (skip rfl ?_)
   exact hk' _ _ ⟨rfl, rfl⟩
 ·obtain ⟨rfl, rfl⟩ := hI
  refine Yes.jn (skip (decide_eq_false (show ¬ (p.length : Int) < (p.length : Int) by omega)) ?_)
  refine Yes.bindv _ h15 (Yes.bindv _ h16 (Yes.bindv _ h32q (Yes.bindv _ h40 ?_)))
  have e1 : ((((coll ps vs p.length).length : Nat) : Int) == ((coll ps vs p.length).length : Int)) = true := by simp
  have e2 : ((((coll pl vl p.length).length : Nat) : Int) == ((coll pl vl q.length).length : Int)) = true := by rw [hqn]; simp
  refine Yes.bind (take e1 (take e2 (Yes.bindv _ hap (take rfl (take ?_ ?_)))))
  ·rw [beq_iff_eq]
   have e3 : ((holdsV m l q).2 == 0) = decide ((holdsV m l q).2 = 0) := by rw [Bool.eq_iff_iff]; simp
   have e4 : ((((coll pl vl q.length).length : Nat) : Int) == 0) = decide ((coll pl vl q.length).length = 0) := by rw [Bool.eq_iff_iff]; simp
   rw [e3]
   refine Eq.trans ?_ e4.symm
   rw [decide_eq_decide]; exact hho
  ·rw [known_ok]
   exact Yes.some (Yes.some rfl)
end Go.Proofs.Ytnfjhdagbknlbaa
