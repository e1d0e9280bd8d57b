/- BoxThrows. -/
import Derived.Test.YtmpjooneiaiffaaLawT
set_option maxRecDepth 8000
namespace Go.Proofs.Ytmpjooneiaiffaa
open Go.RowKit
open Classical

theorem s32x {l : BoxLoom} (hl : LOk l) {ps : List BoxPick} (hp : ∀ p ∈ ps, okP l.Boxes p = true) (hlen : ps.length ≤ 30) :
  Yes (f32 l ps) (fun r=>r.1.Thrown=(thl l ps).map (fun i:Nat=>(i:Int))∧match thr l ps with | some n=>r.1.After=n∧r.1.Moves=mvt l ps∧r.2=true | none=>r.2=false):=by
 unfold f32
 refine qbind _ (s50 l hl.sml) (Yes.jn (Yes.upto2 (s0 := (⟨[], ⟨[], [], []⟩, 0⟩ : Grifferef04Run)) (t0 := (⟨[], l, 0⟩ : Grifferef04Run)) ps.length (by omega)
  (fun i _ t=>thr l (ps.take i)=some t.After∧t.Thrown=(thl l (ps.take i)).map (fun i:Nat=>(i:Int))∧t.Moves=mvt l (ps.take i)) ⟨by simp [thr],by simp [thl],by simp [mvt]⟩ (fun i s t k hi hI hk=>?_) (fun s t k hI=>?_)))
 ·obtain ⟨h1, h2, h3⟩ := hI
  obtain ⟨k1,k2,_⟩:=thr_ok hl (fun p h=>hp p (List.mem_of_mem_take h)) h1
  have hpi:okP t.After.Boxes ps[i]=true:=by rw [k2]; exact hp _ (List.getElem_mem hi)
  have hln:=thl_len (l:=l) (ps:=ps.take i)
  have hmb:=mvt_bound hl (ps:=ps.take i) fun p h=>hp p (List.mem_of_mem_take h)
  have hti:(ps.take i).length ≤ 30:=by simp; omega
  refine Yes.jn (qtake (by simp; omega) (Yes.jn (qbind _ (qidx hi) (qbind _ (s61 k1 hpi) (Yes.jn ?_)))))
  cases ho:oneL t.After ps[i] with
  | none=>
   refine qtake rfl (Yes.some ⟨?_,?_⟩)
   ·rw [h2,thl_fail hi h1 ho]
   ·rw [thr_fail hi h1 ho]
  | some x=>
   obtain ⟨n,c,m⟩:=x
   obtain ⟨e1,e2⟩:=thl_step hi h1 ho
   obtain ⟨_,_,_,_,hm⟩:=oneL_ok k1 hpi ho
   refine qskip rfl (Yes.bind (Yes.apnd (by rw [h2]; simp; omega) (by rw [h2]; simp; omega) (hk _ _ ⟨?_,?_,?_⟩)))
   ·show thr l (ps.take (i + 1)) = some n
    rw [thr_step hi h1,ho]; rfl
   ·show t.Thrown ++ [(c : Int)] = _
    rw [e1,List.map_append,h2]; rfl
   ·show w64 (t.Moves + m) = _
    rw [e2,h3,w64_id (by omega) (by omega)]
 ·obtain ⟨h1, h2, h3⟩ := hI
  rw [List.take_length] at h1 h2 h3
  refine Yes.jn (qskip (by simp) (Yes.some ⟨h2,?_⟩))
  rw [h1]
  exact ⟨rfl,h3,rfl⟩
theorem s18e {a:BoxLoom} (h:Sml a) (b:BoxLoom) (hab:a=b):f18 a b=some true:=by subst hab; exact s18r a h
theorem s12 (l:BoxLoom) (ps:List BoxPick):f12 l ps=some true:=by
 refine Yes.eq ?_
 unfold f12
 have known:Yes (f14.bind fun y=>some y) (fun r=>r=true):=⟨true,rfl,rfl⟩
 refine Yes.jn (Yes.bind (Yes.mono (Q':=fun b=>b=decide (¬ Sml l ∨ ps.length > 30)) ?_ fun b hb=>?_))
 ·refine qbind _ (s13 l) (Yes.cond (fun hc => Yes.some ?_) (fun hc => Yes.some ?_))
  ·exact (decide_eq_true (.inl (of_decide_eq_true hc))).symm
  ·have := of_decide_eq_false hc
   rw [decide_eq_decide]
   constructor
   ·intro h; exact .inr (by omega)
   ·rintro (h | h)
    ·exact absurd h this
    ·omega
 subst hb
 refine Yes.cond (fun _=>known) (fun hc=>?_)
 obtain ⟨h1,h2⟩:=not_or.1 (of_decide_eq_false hc)
 have hs:Sml l:=Classical.not_not.1 h1
 have hlen:ps.length ≤ 30:=by omega
 have hs0:Sml (⟨[],[],[]⟩:BoxLoom):=⟨by simp,by simp,by simp⟩
 -- the last line,for an error
 have fin:∀ {y:List Int × BoxLoom × Int × Int × Int} {e at':Int},y=([],⟨[],[],[]⟩,0,at',e)→Yes ((bif (y.2.2.2.2 == e) then bif (y.2.2.2.1 == at') then bif (((y.1).length:Int) == (0:Int)) then bif (y.2.2.1 == (0:Int)) then (f18 (y.2.1) (⟨[],[],[]⟩:BoxLoom)).bind fun bB=>bif bB then (f14).bind fun dC=>some dC else some false else some false else some false else some false else some false).bind fun cB=>some cB) (fun r=>r=true):=fun {y e at'} hy=>by
  subst hy
  exact Yes.bind (qtake (by simp) (qtake (by simp) (qtake rfl (qtake rfl (qbind _ (s18r _ hs0) (qtake rfl ⟨true,rfl,true,rfl,rfl⟩))))))
 -- the errors,and the colours
 have first : ∀ {d : List Int × Int} {X : Option Bool}, d.2 = chk l → (chk l = 0 → d.1 = cols l ∧ LOk l) → (chk l ≠ 0 → d.1 = []) → Yes X (fun r => r = true) →
   Yes (jn (σ:=Unit) (fun _=>X) fun gM=>Option.bind (α:=Bool) ((f18 l l).bind fun yC=>bif (!yC) then some true else (f23 ps ps).bind fun jC=>bif (!jC) then some true else (f20 l).bind fun kC=>bif (chk l != kC) then some true else some (d.2 != chk l)) fun oA=>bif oA then some false else gM ()) (fun r=>r=true):=fun {d X} hd _ _ hX=>by
  refine Yes.jn (Yes.bind (qbind _ (s18r l hs) (qskip rfl (qbind _ (s23r ps (by omega)) (qskip rfl (qbind _ (s20 l hs) (qskip (by simp) (Yes.some ?_))))))))
  exact qskip (by rw [hd]; simp) hX
 have second : ∀ {d : List Int × Int} {X : Option Bool}, (chk l = 0 → d.1 = cols l ∧ LOk l) → (chk l ≠ 0 → d.1 = []) → Yes X (fun r => r = true) →
   Yes (Option.bind (α:=Bool) (bif (chk l == (0:Int)) then (f47 l).bind fun vH=>(f19 (d.1) vH).bind fun nA=>bif (!nA) then some true else bif (chk l != (0:Int)) then some (((d.1).length:Int) != (0:Int)) else some false else bif (chk l != (0:Int)) then some (((d.1).length:Int) != (0:Int)) else some false) fun i9=>bif i9 then some false else X) (fun r=>r=true):=fun {d X} h0 h1 hX=>by
  by_cases he:chk l=0
  ·obtain ⟨hd, hl⟩ := h0 he
   have hcl:(cols l).length ≤ 10:=Nat.le_trans (List.length_filter_le _ _) (by simp [ten])
   refine Yes.bind (qtake (beq_iff_eq.2 he) (qbind _ (s47 hl) (qbind true (by rw [hd,s19 _ _ (by omega)]; simp) (qskip rfl (qskip (by rw [he]; rfl) (Yes.some (qskip rfl hX)))))))
  ·refine Yes.bind (qskip (beq_eq_false_iff_ne.2 he) (qtake (by simpa using he) (Yes.some (qskip (by rw [h1 he]; rfl) hX))))
 refine qbind _ (s15 l hs) (qbind _ (s28 ps (by omega)) (qbind _ (s46 l hs) ?_))
 by_cases hc0:chk l=0
 ·have hl := chk0.1 hc0
  by_cases he:chkP l ps=0
  ·obtain ⟨_, hp, h24⟩ := chkP0 he
   obtain ⟨r,hr,e1,e2⟩:=s32x hl hp (by omega)
   refine qbind _ (s40 hl hp h24) (qbind _ (s43 hl) (first hc0.symm (fun _=>⟨rfl,hl⟩) (fun h=>absurd hc0 h) (Yes.jn (second (d:=(cols l,0)) (fun _=>⟨rfl,hl⟩) (fun h=>absurd hc0 h) ?_))))
   refine qbind _ (s31 l ps hs (by omega)) ?_
   refine Yes.jn (qtake (by rw [he]; rfl) (qbind _ hr ?_))
   have htl:=thl_lt hl hp
   cases ht:thr l ps with
   | none=>
    rw [ht] at e2
    refine Yes.jn (qskip e2 ?_)
    refine fin (e:=9) ?_
    rw [e1,List.length_map]
   | some n=>
    rw [ht] at e2
    obtain ⟨e2,e3,e4⟩:=e2
    obtain ⟨k1,k2,k3⟩:=thr_ok hl hp ht
    refine Yes.jn (qtake e4 (Yes.jn (qskip (by rw [e1]; simp) (Yes.jn ?_))))
    refine Yes.upto0 (thl l ps).length (by have:=thl_len (l:=l) (ps:=ps); omega) (fun _=>True) trivial (fun i k hi _ hk=>?_) (fun k _=>?_)
    ·have hti := htl _ (List.getElem_mem hi)
     refine Yes.jn (qtake (by simp; omega) (Yes.jn (qbind (colr l (thl l ps)[i]) (by rw [qidx (by simpa using hi)]; simp) (qbind (((thl l ps)[i]:Nat):Int) (by rw [e1,qidx (by simpa using hi)]; simp) (qbind _ (qidx hti) (qskip (by rw [colr_at hti]; simp) (hk trivial)))))))
    ·refine Yes.jn (qskip (by simp) (Yes.bind (qtake rfl (qbind true (s18e k1.sml _ e2.symm) (qtake rfl (qtake (by rw [e3]; simp) (qtake rfl ⟨true,rfl,true,rfl,rfl⟩)))))))
  ·refine qbind _ (s40e hs (by omega) he) (qbind _ (s43 hl) (first hc0.symm (fun _ => ⟨rfl, hl⟩) (fun h => absurd hc0 h) (Yes.jn (second (d := (cols l, 0)) (fun _ => ⟨rfl, hl⟩) (fun h => absurd hc0 h) ?_))))
   refine qbind _ (s31 l ps hs (by omega)) ?_
   exact Yes.jn (qskip (beq_eq_false_iff_ne.2 he) (fin rfl))
 ·have he : chkP l ps ≠ 0 := by unfold chkP; rw [if_pos hc0]; exact hc0
  refine qbind _ (s40e hs (by omega) he) (qbind _ (s43e hs hc0) (first rfl (fun h=>absurd h hc0) (fun _=>rfl) (Yes.jn (second (d:=([],chk l)) (fun h=>absurd h hc0) (fun _=>rfl) ?_))))
  refine qbind _ (s31 l ps hs (by omega)) ?_
  exact Yes.jn (qskip (beq_eq_false_iff_ne.2 he) (fin rfl))
end Go.Proofs.Ytmpjooneiaiffaa
