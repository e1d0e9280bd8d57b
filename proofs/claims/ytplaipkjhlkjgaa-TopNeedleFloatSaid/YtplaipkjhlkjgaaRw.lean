/- A machine of plain data: drawing regions, in the world. No program is named here. -/
import Derived.Test.YtplaipkjhlkjgaaRu
import Derived.Test.YtplaipkjhlkjgaaRp
namespace Go.Proofs.Ytplaipkjhlkjgaa
noncomputable section
open Go.RowKit
structure WI (cx : Cx) (base : Nat) (ρ0 : Rn) (S0 : St) (w0 : World) (Sm : St) (ρ : Rn) (a : Nat → AV) (h : Nat → Option Blk) (w : World) (e : Env) : Prop where
 blk:∀ b B,cx.vis b=true→h b=some B→∃ y,ρ b=some y∧BR ρ w B y
 inj:∀ b b' y y',cx.vis b=true→cx.vis b'=true→h b ≠ none→h b' ≠ none→ρ b=some y→ρ b'=some y'→y.1=y'.1→b=b'
 rng:∀ b y,ρ b=some y→base ≤ y.1∧y.1 < w.heap.size
 base:base ≤ w.heap.size
 env:∀ t,VR ρ w (a t) (e t)
 le:Jf ρ0 ρ
 dom:∀ b,ρ0 b=none→ρ b ≠ none→S0.n ≤ b∧b < Sm.n
 gro:Gro w0 w
 frame:∀ x,x < w0.heap.size→w.heap[x]?=w0.heap[x]? ∨ ∃ b y,ρ b=some y∧y.1=x∧(b ∈ Sm.log∧b < cx.cut ∨ cx.cut ≤ b∧b < Sm.n)
 fresh:∀ b y,ρ0 b=none→ρ b=some y→w0.heap.size ≤ y.1 ∨ ∃ c z,ρ0 c=some z∧z.1=y.1∧Sm.get c=none∧(c ∈ Sm.log∧c < cx.cut ∨ cx.cut ≤ c∧c < S0.n)
section
variable {P:Program} {tab:Tab} {cx:Cx} {base:Nat} {ρ0 ρ ρ':Rn} {S0 Sm:St} {w0 w w':World} {a:Nat→AV} {h:Nat→Option Blk} {e:Env}
variable {run:Cx→Oper→Gv→St→Option (List XO)} {all:List Oper} {ms:List Nat} {r:Rc}
theorem rc_sim (g:Vv run cx all S0.n Sm.n r) (hi:WI cx base ρ0 S0 w0 Sm ρ a h w e) {ops:Array Oper} (hok:OkR ops r a h):Sim r.cx base ρ r.S w:=by
 have key:∀ b,r.cx.vis b=true→r.S.get b ≠ none→cx.vis b=true∧h b=r.S.get b:=fun b hv hb=>by
  have hlt:=g.bnd b hb
  have hsee:r.cx.see b=true:=by
   unfold Cx.vis at hv
   have:Nat.ble r.cx.cut b=false:=by
    cases h5:Nat.ble r.cx.cut b
    ·rfl
    ·have:=Nat.le_of_ble_eq_true h5; rw [g.cut] at this; omega
   rw [this] at hv; simpa using hv
  have hs:r.sees b=true:=by
   unfold Rc.sees
   have:Nat.blt b r.S.n=true:=Nat.ble_eq_true_of_le hlt
   rw [this,hsee]; rfl
  exact ⟨g.see b hsee,hok.2 b hs⟩
 refine ⟨fun b B hv hb=>?_,fun b b' y y' hv hv' hb hb' h1 h2 h3=>?_,hi.rng,hi.base,g.bnd,by rw [g.cut]; exact Nat.le_refl _⟩
 ·obtain ⟨k1, k2⟩ := key b hv (by rw [hb]; simp)
  exact hi.blk b B k1 (k2.trans hb)
 ·obtain ⟨k1, k2⟩ := key b hv hb
  obtain ⟨k3,k4⟩:=key b' hv' hb'
  exact hi.inj b b' y y' k1 k3 (by rw [k2]; exact hb) (by rw [k4]; exact hb') h1 h2 h3
theorem wi_step {v : Value} {ops : Array Oper} (hc : cx.cut ≤ S0.n) (hf0 : ∀ b, S0.n ≤ b → b < Sm.n → ρ0 b = none) (g : Vv run cx all S0.n Sm.n r) (hlog : ∀ b ∈ r.q.S.log, b < cx.cut → b ∈ Sm.log) (hdead : ∀ b, b < r.q.S.n → r.q.S.get b = none → Sm.get b = none)
  (hi:WI cx base ρ0 S0 w0 Sm ρ a h w e) (hok:OkR ops r a h) (hfr:∀ b,r.S.n ≤ b→b < r.q.S.n→ρ b=none) (ev:Evo r.cx ρ r.S w ρ' r.q.S w') (sm:Sim r.cx base ρ' r.q.S w') (hv:VR ρ' w' r.q.v v) :
  WI cx base ρ0 S0 w0 Sm ρ' (Bi a r.o.dst r.q.v) (r.app h) w' (Qi e r.o.dst v):=by
 have hcut:=g.cut
 have hlo:=g.lo
 have hhi:=g.hi
 have hqn:=g.kp.n
 have logIn:∀ b ∈ r.q.S.log,b < r.S.n∧r.cx.see b=true∧h b ≠ none∧cx.vis b=true:=fun b hb=>by
  rcases g.kp.wr b hb with h1 | h1
  ·rw [g.log] at h1; cases h1
  ·rw [hcut] at h1
   refine ⟨h1.1,h1.2.1,?_,g.see b h1.2.1⟩
   have hs:r.sees b=true:=by
    unfold Rc.sees
    have:Nat.blt b r.S.n=true:=Nat.ble_eq_true_of_le h1.1
    rw [this,h1.2.1]; rfl
   rw [hok.2 b hs]
   rcases g.kp.live b hb with h2 | h2
   ·rw [g.log] at h2; cases h2
   ·exact h2
 have tchC:∀ b,r.tch b=true→b ∈ r.q.S.log ∨ (r.S.n ≤ b∧b < r.q.S.n):=fun b hb=>by
  simp only [Rc.tch,Bool.or_eq_true,Bool.and_eq_true] at hb
  rcases hb with hb | hb
  ·exact .inl (by simpa using hb)
  ·exact .inr ⟨Nat.le_of_ble_eq_true hb.1,Nat.le_of_ble_eq_true hb.2⟩
 have tchL:∀ b,b ∈ r.q.S.log→r.tch b=true:=fun b hb=>by
  simp only [Rc.tch,Bool.or_eq_true]; left; simpa using hb
 have tvis:∀ b,r.tch b=true→r.cx.vis b=true:=fun b hb=>by
  unfold Cx.vis
  rcases tchC b hb with h1 | h1
  ·rw [(logIn b h1).2.1]; simp
  ·rw [hcut,Nat.ble_eq_true_of_le h1.1]; rfl
 have oldR:∀ b,cx.vis b=true→h b ≠ none→∃ y,ρ b=some y:=fun b hvb hb=>by
  cases hB:h b with
  | none=>exact absurd hB hb
  | some B=>obtain ⟨y,h1,_⟩:=hi.blk b B hvb hB; exact ⟨y,h1⟩
 have old':∀ b y,cx.vis b=true→h b ≠ none→ρ' b=some y→ρ b=some y:=fun b y hvb hb h1=>by
  obtain ⟨y0,h2⟩:=oldR b hvb hb
  have:=ev.le _ _ h2
  rw [h1] at this; injection this with this; rw [this]; exact h2
 have fresh':∀ b y,ρ b=none→ρ' b=some y→w.heap.size ≤ y.1 ∨ ∃ c z,ρ c=some z∧z.1=y.1∧r.q.S.get c=none∧c ∈ r.q.S.log:=fun b y h1 h2=>by
  rcases ev.fresh b y h1 h2 with h3 | ⟨c,z,h3,h4,h5,h6 | h6⟩
  ·exact .inl h3
  ·exact .inr ⟨c,z,h3,h4,h5,h6.1⟩
  ·rw [hcut] at h6; omega
 have clash:∀ b y,cx.vis b=true→h b ≠ none→ρ b=some y→∀ c z,ρ c=some z→z.1=y.1→c ∈ r.q.S.log→b ∈ r.q.S.log:=fun b y hvb hb h1 c z h2 h3 h4=>by
  obtain ⟨_,_,h5,h6⟩:=logIn c h4
  have:=hi.inj b c y z hvb h6 hb h5 h1 h2 h3.symm
  rw [this]; exact h4
 have half:∀ b b' y y',r.tch b=true→¬ r.tch b'=true→cx.vis b'=true→h b' ≠ none→ρ' b=some y→ρ' b'=some y'→y.1=y'.1→b=b':=fun b b' y y' ht ht' hv' hb' h1 h2 h3=>by
  have h2':=old' b' y' hv' hb' h2
  rcases tchC b ht with h4 | h4
  ·obtain ⟨_, _, h5, h6⟩ := logIn b h4
   exact hi.inj b b' y y' h6 hv' h5 hb' (old' b y h6 h5 h1) h2' h3
  ·rcases fresh' b y (hfr b h4.1 h4.2) h1 with h5 | ⟨c, z, h5, h6, _, h7⟩
   ·have:=(hi.rng b' y' h2').2; omega
   ·exact absurd (tchL _ (clash b' y' hv' hb' h2' c z h5 (h6.trans h3) h7)) ht'
 have appT:∀ b,r.tch b=true→r.app h b=r.q.S.get b:=fun b hb=>by unfold Rc.app; rw [if_pos hb]
 have appN:∀ b,¬ r.tch b=true→r.app h b=h b:=fun b hb=>by unfold Rc.app; rw [if_neg hb]
 refine ⟨fun b B hvb hb=>?_,fun b b' y y' hvb hvb' hb hb' h1 h2 h3=>?_,sm.rng,sm.base,fun t=>?_,hi.le.trans ev.le,fun b h1 h2=>?_,hi.gro.trans ev.gro,fun x hx=>?_,fun b y h1 h2=>?_⟩
 ·by_cases ht : r.tch b = true
  ·rw [appT b ht] at hb; exact sm.blk b B (tvis b ht) hb
  ·rw [appN b ht] at hb
   obtain ⟨y,hy,hB⟩:=hi.blk b B hvb hb
   have hbn:h b ≠ none:=by rw [hb]; simp
   refine ⟨y,ev.le _ _ hy,hB.mono ev.le ev.gro ?_⟩
   rcases ev.frame y.1 hB.lt with h1 | ⟨c,z,hz,hzy,h1 | h1⟩
   ·exact h1
   ·obtain ⟨_, _, h5, h6⟩ := logIn c h1.1
    exact absurd (tchL _ (clash b y hvb hbn hy c z (old' c z h6 h5 hz) hzy h1.1)) ht
   ·rw [hcut] at h1
    rcases fresh' c z (hfr c h1.1 h1.2) hz with h5 | ⟨c',z',h5,h6,_,h7⟩
    ·have:=hB.lt; omega
    ·exact absurd (tchL _ (clash b y hvb hbn hy c' z' h5 (h6.trans hzy) h7)) ht
 ·by_cases ht : r.tch b = true <;> by_cases ht' : r.tch b' = true
  ·rw [appT b ht] at hb; rw [appT b' ht'] at hb'
   exact sm.inj b b' y y' (tvis b ht) (tvis b' ht') hb hb' h1 h2 h3
  ·rw [appN b' ht'] at hb'
   exact half b b' y y' ht ht' hvb' hb' h1 h2 h3
  ·rw [appN b ht] at hb
   exact (half b' b y' y ht' ht hvb hb h2 h1 h3.symm).symm
  ·rw [appN b ht] at hb; rw [appN b' ht'] at hb'
   exact hi.inj b b' y y' hvb hvb' hb hb' (old' b y hvb hb h1) (old' b' y' hvb' hb' h2) h3
 ·have hm := VR.mono ev.le ev.gro (hi.env t)
  cases hd:r.o.dst with
  | none=>exact hm
  | some d=>
   simp only [Bi,Qi]
   by_cases htd:t=d
   ·subst htd; rw [if_pos rfl,Uq]; exact hv
   ·rw [if_neg htd,Yy _ _ htd]; exact hm
 ·by_cases h3 : ρ b = none
  ·have:=ev.dom b h3 h2; omega
  ·exact hi.dom b h1 h3
 ·have hx' := Nat.lt_of_lt_of_le hx hi.gro.size
  rcases ev.frame x hx' with h1 | ⟨c,z,hz,hzx,h1 | h1⟩
  ·rcases hi.frame x hx with h2 | ⟨b, y, h2, h3, h4⟩
   ·exact .inl (h1.trans h2)
   ·exact .inr ⟨b,y,ev.le _ _ h2,h3,h4⟩
  ·refine .inr ⟨c, z, hz, hzx, ?_⟩
   rcases Nat.lt_or_ge c cx.cut with h2 | h2
   ·exact .inl ⟨hlog c h1.1 h2,h2⟩
   ·right; have:=(logIn c h1.1).1; omega
  ·rw [hcut] at h1
   exact .inr ⟨c,z,hz,hzx,.inr (by omega)⟩
 ·cases h3 : ρ b with
  | some y0=>
   have:=ev.le _ _ h3
   rw [h2] at this; injection this with this; subst this
   exact hi.fresh b y h1 h3
  | none=>
   rcases fresh' b y h3 h2 with h4 | ⟨c,z,h4,h5,h6,h7⟩
   ·exact .inl (Nat.le_trans hi.gro.size h4)
   ·have hcn := (logIn c h7).1
    cases h8:ρ0 c with
    | some z'=>
     have:=hi.le _ _ h8
     rw [h4] at this; injection this with this; subst this
     refine .inr ⟨c,z,h8,h5,hdead c (by omega) h6,?_⟩
     rcases Nat.lt_or_ge c cx.cut with h9 | h9
     ·exact .inl ⟨hlog c h7 h9,h9⟩
     ·right; refine ⟨h9, ?_⟩
      rcases Nat.lt_or_ge c S0.n with h10 | h10
      ·exact h10
      ·have:=hf0 c h10 (by omega); rw [h8] at this; cases this
    | none=>
     rcases hi.fresh c z h8 h4 with h9 | ⟨c',z',h9,h10,h11,h12⟩
     ·exact .inl (by omega)
     ·exact .inr ⟨c',z',h9,by omega,h11,h12⟩
theorem want_at {ops:List Oper} {env:Gv} {e:Env} {o:Oper} {b:Bool} (h:Xs ops env o=some b) (he:∀ t ∈ o.looksAt ops.toArray,VR ρ w (env.at t) (e t)):Wants ops.toArray e o.guard b:=by
 unfold Xs at h
 split at h
 ·rename_i hg; simp only [Option.some.injEq] at h; subst h; rw [hg]; exact .plain
 ·rename_i j b0 hg
  split at h
  ·cases h
  ·rename_i d hd
   have hd':(ops.toArray[j]?).bind (·.dst)=some d:=by rw [List.getElem?_toArray]; exact hd
   have hv:=he d (by unfold Oper.looksAt; rw [List.mem_append]; right; simp only [hg]; simp [hd])
   rw [hg]
   split at h
   ·rename_i b' hb'
    rw [hb'] at hv
    have hv':=(V1.one hv).1
    simp only [Option.some.injEq] at h
    cases b with
    | true=>
     have:b'=b0:=by simpa using h
     subst this; exact .yes hd' hv'
    | false=>exact .no hd' hv' h
   ·rename_i hb'
    rw [hb'] at hv
    simp only [Option.some.injEq] at h; subst h
    exact .off hd' hv
   ·cases h
end
end
end Go.Proofs.Ytplaipkjhlkjgaa
/- A machine of plain data: drawing regions are as it says. No program is named here. -/
namespace Go.Proofs.Ytplaipkjhlkjgaa
noncomputable section
open Go.RowKit
section
variable {P:Program} {tab:Tab} {cx:Cx} {base:Nat} {ρ0 ρ ρ':Rn} {S0 Sm:St} {w0 w w':World} {a:Nat→AV} {h:Nat→Option Blk} {e:Env}
theorem any_run {n N : Nat} {ro : Option Nat} {Q' : Jp} {ds : List Deferred} {all : List Oper} {F : (Nat → AV) → (Nat → Option Blk) → Prop} (ih : Hyp P tab n) (hc : cx.cut ≤ S0.n) (hf0 : ∀ b, S0.n ≤ b → b < Sm.n → ρ0 b = none)
  (hok:∀ j,j < all.toArray.size→okO N (Tg all.toArray j).dst=true∧Kb (Tg all.toArray j)=false∧∀ k ∈ Gs (Tg all.toArray j),k < j)
  (hap:∀ j,j < all.toArray.size→∀ i,i < j→((Ck all).getD j 0).testBit i=true ∨ Ha all.toArray (Tg all.toArray i) (Tg all.toArray j)=true)
  (hF:∀ ρ a h w e,WI cx base ρ0 S0 w0 Sm ρ a h w e→F a h→Q' .normal e ds w) :
  ∀ (m : Nat) (l : List Rc) (listed : Array Bool) (e : Env) (t : Act) (w : World) (ρ : Rn) (a : Nat → AV) (h : Nat → Option Blk), l.length = m → l.Pairwise (Dom (Ck all)) → l.Pairwise (fun i j => i.k < j.k) →
   (∀ r ∈ l,Vv (fun cxk o env S=>go P tab n cxk (.o o env) S) cx all S0.n Sm.n r)→(∀ r ∈ l,(∀ b ∈ r.q.S.log,b < cx.cut→b ∈ Sm.log)∧∀ b,b < r.q.S.n→r.q.S.get b=none→Sm.get b=none) →
   listed.size=all.toArray.size→Uw all.toArray listed→(∀ k,k < all.toArray.size→(listed.getD k false=false ↔ ∃ r ∈ l,r.k=k))→Kw N e t→t.defers=ds→WI cx base ρ0 S0 w0 Sm ρ a h w e →
   (∀ r ∈ l,∀ b,r.S.n ≤ b→b < r.q.S.n→ρ b=none)→RunH all.toArray F l a h→wpAnyIn (fz ro) 0 P .any all.toArray (Sg N Q') m listed t w:=by
 intro m
 induction m with
 | zero=>
  intro l listed e t w ρ a h hm _ _ _ _ hsz _ hl ht hds hi _ hr
  have hl0:l=[]:=List.eq_nil_of_length_eq_zero hm
  subst hl0
  refine ⟨?_,ht.size,by rw [ht.eq,hds]; exact hF _ _ _ _ _ hi hr⟩
  rw [List.eq_nil_iff_forall_not_mem]
  intro i hri
  obtain ⟨h1,h2,_⟩:=Ka.1 hri
  rw [Wz (by omega) true false] at h1
  obtain ⟨r,hr,_⟩:=(hl i h2).1 h1
  cases hr
 | succ m IH=>
  intro l listed e t w ρ a h hm hdom hlt hgood hfin hsz hcl hl ht hds hi hfr hr
  have kin:∀ r ∈ l,r.k < all.toArray.size∧Tg all.toArray r.k=r.o:=fun r hr=>by
   have h1:=(hgood r hr).op
   have h2:=(List.getElem?_eq_some_iff.1 h1).1
   refine ⟨by simpa using h2,?_⟩
   have h3:=Ws (ops:=all.toArray) (i:=r.k) (by simpa using h2)
   rw [List.getElem?_toArray,h1] at h3
   exact (Option.some.inj h3).symm
  refine ⟨fun h0=>?_,fun j hj=>?_⟩
  ·exfalso
   cases l with
   | nil=>simp at hm
   | cons r0 l0=>
    have hk:=kin r0 (by simp)
    have:r0.k ∈ Region.ready .any all.toArray listed:=Ka.2 ⟨by rw [Wz (by omega) true false]; exact (hl _ hk.1).2 ⟨r0,by simp,rfl⟩,hk.1,fun i hi=>by
     have hik:=(hok _ hk.1).2.2 i hi
     cases hli:listed.getD i false with
     | true=>rfl
     | false=>
      obtain ⟨r,hr,hrk⟩:=(hl i (by omega)).1 hli
      rcases List.mem_cons.1 hr with rfl | hr
      ·omega
      ·have:=(List.pairwise_cons.1 hlt).1 r hr; omega⟩
    rw [h0] at this; cases this
  ·obtain ⟨hj1, hj2, hj3⟩ := Ka.1 hj
   rw [Wz (by omega) true false] at hj1
   obtain ⟨r,hrl,hrk⟩:=(hl j hj2).1 hj1
   obtain ⟨l1,l2,rfl⟩:=List.append_of_mem hrl
   have hg:=hgood r hrl
   have hkr:=kin r hrl
   have hoj:all.toArray[j]?=some r.o:=by rw [Ws hj2,← hrk,hkr.2]
   have hd1:=List.pairwise_append.1 hdom
   have hd2:=List.pairwise_cons.1 hd1.2.1
   have hl1:=List.pairwise_append.1 hlt
   have hl2:=List.pairwise_cons.1 hl1.2.1
   obtain ⟨hokr,hrest⟩:=run_take l1 a h (fun i hi1=>by
    have hik:i.k < r.k:=hl1.2.2 i hi1 r (by simp)
    have hil:i ∈ l1 ++ r :: l2:=List.mem_append_left _ hi1
    have hki:=kin i hil
    have hnb:¬ ((Ck all).getD r.k 0).testBit i.k=true:=fun hb=>by
     have hli:=(hl i.k hki.1).2 ⟨i,hil,rfl⟩
     have:=preds_ok (ops:=all.toArray) (j:=r.k) hkr.1 i.k (by simpa using hb) listed hcl (by rw [hrk]; exact hj3)
     rw [hli] at this; cases this
    refine ind_of (hgood i hil) hg (hd1.2.2 i hi1 r (by simp)) hnb ?_
    have:=(hap r.k hkr.1 i.k hik).resolve_left hnb
    rwa [hki.2,hkr.2] at this) hr
   have hsub:∀ x ∈ l1 ++ l2,x ∈ l1 ++ r :: l2:=fun x hx=>by
    rcases List.mem_append.1 hx with h1 | h1 <;> simp [h1]
   have hlen:(l1 ++ l2).length=m:=by simp at hm ⊢; omega
   have hsl:(l1 ++ l2).Sublist (l1 ++ r :: l2):=List.Sublist.append (List.Sublist.refl l1) (List.sublist_cons_self r l2)
   have hfrr:=hfr r hrl
   have hdis:∀ x ∈ l1 ++ l2,x.q.S.n ≤ r.S.n ∨ r.q.S.n ≤ x.S.n:=fun x hx=>by
    rcases List.mem_append.1 hx with h1 | h1
    ·exact .inl (hd1.2.2 x h1 r (by simp)).1
    ·exact .inr (hd2.1 x h1).1
   have hlst:∀ k,k < all.toArray.size→((listed.setIfInBounds j true).getD k false=false ↔ ∃ x ∈ l1 ++ l2,x.k=k):=fun k hk=>by
    rw [Ul (by omega)]
    by_cases hkj:k=j
    ·subst hkj
     rw [if_pos rfl]
     refine ⟨fun h=>by (cases h),fun ⟨x,hx,hxk⟩=>?_⟩
     rcases List.mem_append.1 hx with h1 | h1
     ·have:=hl1.2.2 x h1 r (by simp); omega
     ·have:=hl2.1 x h1; omega
    ·rw [if_neg hkj, hl k hk]
     refine ⟨fun ⟨x,hx,hxk⟩=>⟨x,?_,hxk⟩,fun ⟨x,hx,hxk⟩=>⟨x,hsub x hx,hxk⟩⟩
     rcases List.mem_append.1 hx with h1 | h1
     ·simp [h1]
     ·rcases List.mem_cons.1 h1 with rfl | h1
      ·exact absurd (hxk.symm.trans hrk) hkj
      ·simp [h1]
   have hcl':Uw all.toArray (listed.setIfInBounds j true):=Di hok hcl hsz hj2 hj3
   have looks:∀ t ∈ r.o.looksAt all.toArray,VR ρ w (r.env.at t) (e t):=fun t ht=>by
    have:=hi.env t; rw [hokr.1 t ht] at this; exact this
   -- after it
   have fin:∀ (v:Value) (w':World) (ρ':Rn),Evo r.cx ρ r.S w ρ' r.q.S w'→Sim r.cx base ρ' r.q.S w'→VR ρ' w' r.q.v v→wpAnyIn (fz ro) 0 P .any all.toArray (Sg N Q') m (listed.setIfInBounds j true) (t.put r.o.dst v) w':=fun v w' ρ' ev sm hv=>by
    have hoko:okO N r.o.dst=true:=by have:=(hok r.k hkr.1).1; rwa [hkr.2] at this
    refine IH (l1 ++ l2) _ (Qi e r.o.dst v) _ w' ρ' _ _ hlen (hdom.sublist hsl) (hlt.sublist hsl) (fun x hx => hgood x (hsub x hx)) (fun x hx => hfin x (hsub x hx)) (by simpa using hsz) hcl' hlst (ht.putO hoko v) (by rw [Ky]; exact hds)
     (wi_step hc hf0 hg (hfin r hrl).1 (hfin r hrl).2 hi hokr hfrr ev sm hv) (fun x hx b h1 h2=>?_) hrest
    have h3:=hfr x (hsub x hx) b h1 h2
    cases h4:ρ' b with
    | none=>rfl
    | some y=>
     have:=ev.dom b h3 (by rw [h4]; simp)
     rcases hdis x hx with h5 | h5 <;> omega
   have hsim:=rc_sim hg hi hokr
   cases hw:r.want with
   | true=>
    obtain ⟨hw1,hgo⟩:=hg.on hw
    have hwt:=(want_at hw1 looks).yieldE
    refine Jr hoj (by have:=(hok r.k hkr.1).2.1; rwa [hkr.2] at this) ht hwt ?_
    refine ih _ _ _ _ hgo base ρ w hsim (fun q hq b h1 h2=>?_) e _ (fun t ht=>looks t ?_) fun q hq ρ' w' v haft hv=>?_
    ·rw [List.mem_singleton.1 hq] at h2; exact hfrr b h1 h2
    ·exact List.mem_append_left _ (List.mem_filterMap.2 ⟨.tmp t,by simpa using ht,rfl⟩)
    ·obtain rfl := List.mem_singleton.1 hq
     exact fin v w' ρ' haft.1 haft.2 hv
   | false=>
    obtain ⟨hw1,hv0,hS0⟩:=hg.off hw
    have hwt:=(want_at hw1 looks).yieldE
    refine Xj hoj ht (by rw [hwt]; simp) (fin undef w ρ ?_ ?_ ?_)
    ·rw [hS0]; exact Evo.refl hsim.cut
    ·rw [hS0]; exact hsim
    ·rw [hv0]; exact rfl
theorem ok_d (hmx : P.follows .mixedOrders = true) {n N : Nat} (ih : Hyp P tab n) {id : Nat} {ro : Option Nat} {Q : Jp} {ds : List Deferred} {ops : Array Oper} {env : Gv} {p : Gv × St} {e : Env}
  (h:drw (fun cxk o env S=>go P tab n cxk (.o o env) S) cx ops.toList (Ck ops.toList) ops.toList [] env S0=some p) (hs:Sim cx base ρ S0 w) (hf:∀ b,S0.n ≤ b→b < p.2.n→ρ b=none)
  (hok:ops.toList.all (fun o=>okO N o.dst && Xd o.op)=true) (hd:okD ops=true) (he:Xb ρ w env e)
  (hQ:∀ ρ' w' e',Evo cx ρ S0 w ρ' p.2 w'→Sim cx base ρ' p.2 w'→Xb ρ' w' p.1 e'→Q .normal e' ds w'):E P N ro (.region id ops true) Q e ds w:=by
 intro t ht hds
 have hkp:=Ls (fun cxk o env S q hq hc=>go_kp _ _ _ _ _ hq hc q (by simp)) hs.cut h
 obtain ⟨l,h1,h2,h3,h4,_,h6⟩:=Oo (fun cxk o env S q hq hc=>go_kp _ _ _ _ _ hq hc q (by simp)) ops.toList [] env S0 p hs.cut hs.bnd h (fun r hr=>by cases hr) rfl
 have hlen:l.length=ops.size:=by have:=congrArg List.length h3; simpa using this
 simp only [okD,List.all_eq_true,List.mem_range,Bool.and_eq_true,Bool.or_eq_true] at hd
 refine wpIn_region_any hmx ?_
 have key := any_run (P := P) (tab := tab) (cx := cx) (base := base) (ρ0 := ρ) (S0 := S0) (Sm := p.2) (w0 := w.drew) (N := N) (ro := ro) (Q' := Q) (ds := ds) (all := ops.toList) (F := fun a h => a = Gv.at p.1 ∧ h = St.get p.2) ih hs.cut hf
  (fun j hj=>by
   have hj':j < ops.size:=by simpa using hj
   have hd1:=hd j hj'
   refine ⟨?_,by simpa using hd1.1.1,fun k hk=>by have:=hd1.1.2 k (by simpa using hk); simpa using this⟩
   rw [List.all_eq_true] at hok
   have:Tg ops j ∈ ops.toList:=by
    have:=Ws hj'
    rw [← Array.getElem?_toList] at this
    exact List.mem_of_getElem? this
   have:=hok _ this
   simp only [Bool.and_eq_true] at this
   simpa using this.1)
  (fun j hj i hij=>by
   have hj':j < ops.size:=by simpa using hj
   simpa using (hd j hj').2 i hij)
  (fun ρ' a h w' e' hi hF=>by
   obtain ⟨rfl,rfl⟩:=hF
   have hev:Evo cx ρ S0 w.drew ρ' p.2 w':=⟨hkp.n,hkp.log,hkp.wr,hkp.keep,hkp.dead,hi.le,hi.dom,hi.gro,hi.frame,hi.fresh⟩
   refine hQ ρ' w' e' ((Ov hs.cut).trans hs.cut hev hf) ⟨hi.blk,hi.inj,hi.rng,hi.base,hkp.bnd hs.bnd,Nat.le_trans hs.cut hkp.n⟩ (fun u=>hi.env u))
  ops.size l (Array.replicate ops.size false) e t w.drew ρ (Gv.at env) (St.get S0) hlen h4 (by
   have hp:(l.map (·.k)).Pairwise (· < ·):=by rw [h3]; exact List.pairwise_lt_range'
   exact List.pairwise_map.1 hp) h2 h6 (by simp) (fun k _ hlk=>by simp [Array.getD] at hlk) (fun k hk=>by
   refine ⟨fun _=>?_,fun _=>by simp [Array.getD]⟩
   have:k ∈ l.map (·.k):=by rw [h3]; simp at hk ⊢; exact hk
   obtain ⟨r,hr,hrk⟩:=List.mem_map.1 this
   exact ⟨r,hr,hrk⟩) ht hds
  ⟨fun b B hv hb=>let ⟨y,h7,h8⟩:=hs.drew.blk b B hv hb; ⟨y,h7,h8⟩,hs.inj,hs.drew.rng,hs.drew.base,fun u=>VR.mono (Jf.refl _) (Fo w) (he u),Jf.refl _,fun b h7 h8=>absurd h7 h8,Gro.refl _,fun _ _=>.inl rfl,fun b y h7 h8=>by rw [h7] at h8; cases h8⟩
  (fun r hr b h7 h8=>hf b (Nat.le_trans (h2 r hr).lo h7) (Nat.lt_of_lt_of_le h8 (h2 r hr).hi)) h1
 simpa using key
end
end
end Go.Proofs.Ytplaipkjhlkjgaa
