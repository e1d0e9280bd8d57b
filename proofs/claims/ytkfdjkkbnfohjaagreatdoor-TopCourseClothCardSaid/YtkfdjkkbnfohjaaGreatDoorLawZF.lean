/- Plain laws: the reading of a cloth, the harness, the steps. -/
import Derived.Test.YtkfdjkkbnfohjaaGreatDoorLawZD
set_option maxRecDepth 8000
namespace Go.Proofs.YtkfdjkkbnfohjaaGreatDoor
open Go.RowKit
open Classical

theorem arm6:f6=some true:=rfl
theorem arm7:f7=some true:=by kernel_rfl
def Cov (H:Nat) (h:TieHarness):Prop:=∀ k,k < H→∃ hw:k < h.Warps.length,h.Warps[k]=(k:Int)
theorem g16 {H : Nat} (hH : 1 ≤ H ∧ H ≤ 12) {h : TieHarness} (hk : HOk H h) (hcov : Cov H h) {rows : List Int} (hr : 1 ≤ rows.length ∧ rows.length ≤ 30) (hrow : ∀ r ∈ rows, 0 ≤ r ∧ r < ((2 ^ H : Nat) : Int)) :
  Yes (f16 h (wv h.Warps rows)) (fun r=>r.1.Rows=rows∧r.2=0):=by
 unfold f16
 refine Yes.jn (qbind _ (g66 hH hk rfl hr) (qskip rfl (Yes.jn (Yes.bind ((g67 hk rfl hr.2).mono fun P hP=>?_)))))
 rcases hP with ⟨_,p,w,f,_,_,_,_,_,h1,h2,_,_,e,ne⟩ | ⟨ht,_⟩
 ·exact absurd e.symm ne
 ·refine qskip ht (Yes.jn (Yes.bind ((g55 (N := H) (by omega) rfl hk.2.1.2 hr.2 hk.2.2 (fun w w' h1 h2 h3 h4 e => by rw [e])).mono fun D hD => Yes.some ⟨?_, rfl⟩)))
  obtain ⟨_,d2,d3⟩:=hD
  refine List.ext_getElem d2 fun p h1 h2=>?_
  obtain ⟨⟨b1,b2⟩,b3⟩:=d3 p h1 h2
  have hq:=hrow rows[p] (List.getElem_mem h2)
  have ht:D.Rows[p].toNat=rows[p].toNat:=by
   refine Nat.eq_of_testBit_eq fun k=>?_
   by_cases hkH:k < H
   ·obtain ⟨hw, he⟩ := hcov k hkH
    have:=b3 k hw hw
    rw [he] at this
    simpa [bit] using this
   ·have e1 : (2 : Nat) ^ H ≤ 2 ^ k := Nat.pow_le_pow_right (by omega) (by omega)
    rw [Nat.testBit_lt_two_pow (by omega),Nat.testBit_lt_two_pow (by omega)]
  show D.Rows[p]=rows[p]
  omega
theorem gH {H : Nat} (hH : 1 ≤ H ∧ H ≤ 12) {h : TieHarness} (hk : HOk H h) :
    Yes (lp (σ:=TieHarness × Int) (fun vV (y6,i7)=>
   jn (σ:=Unit) (fun _=>
    Option.bind (α:=TieHarness) (
     (idx ((y6).Warps) i7).bind fun _=>
     some (({ y6 with Warps:=(List.set ((y6).Warps) (Int.toNat i7) i7) }:TieHarness))
     ) fun rE=>
    vV (rE,(w64 (i7 + (1:Int))))
    ) fun xV=>
   Option.bind (α:=Bool) (
    bif (decide (i7 < (y6).Hooks)) then
     some ((decide (i7 < (((y6).Warps).length:Int))))
    else
     some (false)
    ) fun bD=>
   bif bD then
    xV ()
   else
    some (y6)
   ) big (h,(0:Int))) (fun h'=>HOk H h'∧(H ≤ h'.Warps.length→Cov H h')):=by
  refine Yes.lp (fun s=>∃ i:Nat,s.2=i∧i ≤ H∧HOk H s.1∧Cov i s.1) (fun s=>H - s.2.toNat) ⟨0,rfl,by omega,hk,fun k hk=>absurd hk (Nat.not_lt_zero _)⟩ (by show H - _ < _; omega) ?_
  rintro ⟨m,b⟩ kk ⟨i,e1,e2,e3,e4⟩ hkk
  simp only at e1 e3 e4
  subst e1
  obtain ⟨a1,a2,a3⟩:=id e3
  refine Yes.jn (Yes.bind (Yes.mono (Q':=fun r=>r=true∧i < H∧i < m.Warps.length ∨ r=false∧¬ (i < H∧i < m.Warps.length)) ?_ fun r hr=>?_))
  · refine Yes.cond (fun hc => Yes.some ?_) (fun hc => Yes.some (Or.inr ⟨rfl, ?_⟩))
    · have hc := of_decide_eq_true hc
      by_cases hl:i < m.Warps.length
      · exact Or.inl ⟨decide_eq_true (by omega),by omega,hl⟩
      · exact Or.inr ⟨decide_eq_false (by omega),by omega⟩
    · have hc := of_decide_eq_false hc
      omega
  · rcases hr with ⟨rfl, h1, h2⟩ | ⟨rfl, hn⟩
    · refine qtake rfl (Yes.bind (qbind _ (qidx h2) (Yes.some (hkk _ ⟨i + 1, ?_, by omega, ⟨a1, ?_, fun a ha => ?_⟩, fun k hk => ?_⟩ ?_))))
      · show w64 ((i:Int) + 1)=_; rw [w64_id (by omega) (by omega)]; simp
      · show 1 ≤ (m.Warps.set _ _).length ∧ (m.Warps.set _ _).length ≤ 96
        rw [List.length_set]; exact a2
      · have ha : a ∈ m.Warps.set (i : Int).toNat (i : Int) := ha
        rcases List.mem_or_eq_of_mem_set ha with h | h
        · exact a3 a h
        · omega
      · show ∃ hw : k < (m.Warps.set (i : Int).toNat (i : Int)).length, (m.Warps.set (i : Int).toNat (i : Int))[k] = (k : Int)
        refine ⟨by rw [List.length_set]; omega,?_⟩
        rw [List.getElem_set]
        split
        · omega
        · obtain ⟨_, he⟩ := e4 k (by omega)
          exact he
      · show H - (w64 ((i : Int) + 1)).toNat < H - (i : Int).toNat
        rw [w64_id (by omega) (by omega)]; omega
    · refine qskip rfl (Yes.some ⟨e3, fun hle k hk => ?_⟩)
      exact e4 k (by omega)
end Go.Proofs.YtkfdjkkbnfohjaaGreatDoor
/- TopCourseCloth's plain law. -/
set_option maxRecDepth 8000
namespace Go.Proofs.YtkfdjkkbnfohjaaGreatDoor
open Go.RowKit
open Classical

theorem step8 (u:UInt8):∃ c s:_,u8rem u (8:UInt8)=some c∧s ≤ 2∧idx ((⟨List.toArray [(1:Int),(1:Int),(1:Int),(1:Int),(1:Int),(1:Int),(0:Int),(2:Int)],rfl⟩:Vector Int 8)).toList ((c).toNat:Int)=some ((s:Nat):Int):=by
 refine ⟨u % 8,?_⟩
 have h:(u % 8).toNat < 8:=by rw [UInt8.toNat_mod]; exact Nat.mod_lt _ (by decide)
 have e:u8rem u (8:UInt8)=some (u % 8):=by unfold u8rem; rw [if_neg (by decide)]
 generalize (u % 8).toNat=n at h
 rcases (by omega:n=0 ∨ n=1 ∨ n=2 ∨ n=3 ∨ n=4 ∨ n=5 ∨ n=6 ∨ n=7) with rfl | rfl | rfl | rfl | rfl | rfl | rfl | rfl
 ·exact ⟨1,e,by omega,rfl⟩
 ·exact ⟨1,e,by omega,rfl⟩
 ·exact ⟨1,e,by omega,rfl⟩
 ·exact ⟨1,e,by omega,rfl⟩
 ·exact ⟨1,e,by omega,rfl⟩
 ·exact ⟨1,e,by omega,rfl⟩
 ·exact ⟨0,e,by omega,rfl⟩
 ·exact ⟨2,e,by omega,rfl⟩
theorem fs_snoc (ss:List Nat) (s:Nat):fs (ss ++ [s])=fs ss + fa s:=by simp [fs]
theorem fs_le : ∀ ss : List Nat, fs ss ≤ ss.length
 | []=>by simp [fs]
 | s :: ss=>by
  have:=fs_le ss
  have e:fs (s :: ss)=fa s + fs ss:=by simp [fs]
  have h:fa s ≤ 1:=by unfold fa; split <;> omega
  rw [List.length_cons]; omega
theorem gT (x1 : List UInt8) (hl : x1.length ≤ 9223372036854775807) :
    Yes (lp (σ:=(List Int) × Int × Int) (fun tO (lB,aB,x6)=>
    jn (σ:=Unit) (fun _=>
     Option.bind (α:=(List Int) × Int) (
      (idx x1 x6).bind fun uO=>
      (u8rem uO (8:UInt8)).bind fun cM=>
      (idx ((⟨List.toArray [(1:Int),(1:Int),(1:Int),(1:Int),(1:Int),(1:Int),(0:Int),(2:Int)],rfl⟩:Vector Int 8)).toList ((cM).toNat:Int)).bind fun y246=>
      (apnd 8 lB (([y246]:List Int))).bind fun dM=>
      bif (y246 != (1 : Int)) then
       some (dM,(w64 (aB + (1:Int))))
      else
       some (dM,aB)
      ) fun (cD,lE)=>
     tO (cD,lE,(w64 (x6 + (1:Int))))
     ) fun vO=>
    Option.bind (α:=Bool) (
     bif (decide (x6 < ((x1).length : Int))) then
      some ((decide (x6 < (30:Int))))
     else
      some (false)
     ) fun eD=>
    bif eD then
     vO ()
    else
     some (lB,aB)
    ) big (([]:List Int),(0:Int),(0:Int))) (fun r=>∃ ss:List Nat,(∀ s ∈ ss,s ≤ 2)∧ss.length ≤ 30∧r=((ss.map fun s:Nat=>(s:Int)),((fs ss:Nat):Int))):=by
  refine Yes.lp (fun s=>∃ ss:List Nat,(∀ s ∈ ss,s ≤ 2)∧ss.length ≤ 30∧s=((ss.map fun s:Nat=>(s:Int)),((fs ss:Nat):Int),(ss.length:Int))) (fun s=>30 - s.2.2.toNat) ⟨[],by simp,by simp,rfl⟩ (by show 30 - _ < _; omega) ?_
  rintro ⟨l,b,i⟩ kk ⟨ss,h1,h2,h3⟩ hkk
  obtain ⟨rfl,rfl,rfl⟩:l=ss.map (fun s:Nat=>(s:Int))∧b=((fs ss:Nat):Int)∧i=(ss.length:Int):=by
    simpa using h3
  have hf:=fs_le ss
  refine Yes.jn (Yes.bind (Yes.mono (Q':=fun r=>r=true∧ss.length < x1.length∧ss.length < 30 ∨ r=false) ?_ fun r hr=>?_))
  · refine Yes.cond (fun hc => Yes.some ?_) (fun hc => Yes.some (Or.inr rfl))
    have hc:=of_decide_eq_true hc
    by_cases hlt:ss.length < 30
    · exact Or.inl ⟨decide_eq_true (by omega),by omega,hlt⟩
    · exact Or.inr (decide_eq_false (by omega))
  · rcases hr with ⟨rfl, g1, g2⟩ | rfl
    · obtain ⟨c, s, t1, t2, t3⟩ := step8 x1[ss.length]
      refine qtake rfl (Yes.bind (Yes.mono (Q':=fun r=>r=(((ss ++ [s]).map fun s:Nat=>(s:Int)),((fs (ss ++ [s]):Nat):Int))) ?_ fun r hr=>?_))
      · refine qbind _ (qidx g1) (qbind _ t1 (qbind _ t3 (Yes.bind (Yes.apnd (by simp; omega) (by simp; omega) ?_))))
        refine Yes.cond (fun hc=>Yes.some ?_) (fun hc=>Yes.some ?_)
        · have hs : s ≠ 1 := by intro h; subst h; simp at hc
          rw [fs_snoc,w64_id (by omega) (by omega)]
          simp [fa,hs]
        · have hs:s=1:=by
            have:((s:Nat):Int)=1:=by simpa using hc
            omega
          rw [fs_snoc]
          simp [fa,hs]
      · subst hr
        refine hkk _ ⟨ss ++ [s],?_,by simp; omega,?_⟩ ?_
        · intro t ht
          rcases List.mem_append.1 ht with h | h
          · exact h1 t h
          · rw [List.mem_singleton.1 h]; exact t2
        · rw [w64_id (by omega) (by omega)]; simp
        · show 30 - (w64 ((ss.length : Int) + 1)).toNat < 30 - (ss.length : Int).toNat
          rw [w64_id (by omega) (by omega)]; omega
    · exact qskip rfl (Yes.some ⟨ss,h1,h2,rfl⟩)
theorem ends:Yes (f6.bind fun dH=>bif dH then f7.bind fun mJ=>some mJ else some false) (fun r=>r=true):=
 qbind true arm6 (qtake rfl (qbind true arm7 (Yes.some rfl)))
theorem arms:Yes (Option.bind (α:=Bool) (f6.bind fun dH=>bif dH then f7.bind fun mJ=>some mJ else some false) fun vE=>some vE) (fun r=>r=true):=
 Yes.bind (ends.mono fun _ h=>Yes.some h)
theorem wk_rng {H : Nat} {R : List Int} (hR : ∀ r ∈ R, 0 ≤ r ∧ r < ((2 ^ H : Nat) : Int)) (hn : 0 < R.length) : ∀ (ss : List Nat) (a : Nat), a < R.length → ∀ r ∈ wk R a ss, 0 ≤ r ∧ r < ((2 ^ H : Nat) : Int)
 | [],_,_=>fun r h=>absurd h (by simp [wk])
 | s :: ss,a,ha=>fun r h=>by
  rw [wk] at h
  rcases List.mem_cons.1 h with rfl | h
  ·rw [List.getD_eq_getElem?_getD,List.getElem?_eq_getElem ha,Option.getD_some]; exact hR _ (List.getElem_mem ha)
  ·exact wk_rng hR hn ss _ (Nat.mod_lt _ hn) r h
theorem s3 {A D E F G':Prop} (x:Loom) (x1:List UInt8) (hh:A∧(x.Warps.length ≤ 9223372036854775807∧D)∧(x.Rows.length ≤ 9223372036854775807∧E)∧(x.Cards.length ≤ 9223372036854775807∧F)) (hx:x1.length ≤ 9223372036854775807∧G'):f3 x x1=some true:=by
 obtain ⟨_,⟨hw,_⟩,⟨hr,_⟩,⟨hcd,_⟩⟩:=hh
 have hH:=hk_rng x
 refine Yes.eq ?_
 unfold f3
 refine Yes.bind ((p54 x hw).mono fun h hh=>Yes.bind ((p55 x hr).mono fun d hd0=>?_))
 generalize hk x=H at hH hh hd0
 obtain ⟨hd,hd10⟩:=hd0
 obtain ⟨d1,d2,d3⟩:=id hd
 refine Yes.bind ((gH hH hh).mono fun h' hp=>?_)
 obtain ⟨h1,hc⟩:=hp
 refine Yes.jn (Yes.cond (fun _=>arms) (fun hc'=>?_))
 have hcov:=hc (by have:=of_decide_eq_false hc'; rw [h1.1] at this; omega)
 have hb:BOk H ⟨H,crd d.Rows⟩:=bok_of ⟨d2.1,hd10⟩ d3 rfl (by show ((crd d.Rows).map un).Perm _; rw [crd_un])
 have t8:f8 d=some (⟨(H:Int),crd d.Rows⟩,0):=by rw [p42 hH hd,d1]
 refine qbind _ (c31 hd) (qbind _ t8 (Yes.bind ((gT x1 hx.1).mono fun kl hkl=>?_)))
 obtain ⟨ss,hs,hsl,rfl⟩:=hkl
 refine Yes.bind ((p57 x.Cards hcd (i:=0) (by omega)).mono fun j hj=>qbind _ (rem_nn hj.1 (by omega)) ?_)
 obtain ⟨a,ha⟩:=Int.eq_ofNat_of_zero_le (Int.emod_nonneg j (show (d.Rows.length:Int) ≠ 0 by omega))
 have hlt:=Int.emod_lt_of_pos j (show 0 < (d.Rows.length:Int) by omega)
 rw [ha] at hlt ⊢
 have halt:a < d.Rows.length:=by omega
 have hwl:(wk d.Rows a ss).length=ss.length:=wk_len
 have hwr:=wk_rng d3 (by omega) ss a halt
 refine qbind _ (c59 hb) (qbind _ (c11 _ (by simp; omega)) (qbind _ (g11 hH hb halt hs (by omega)) ?_))
 refine Yes.jn (qbind false (Yes.eq (qskip rfl (qskip rfl (Yes.some (by simp [hwl]))))) (qskip rfl ?_))
 refine Yes.jn (Yes.cond (fun _=>arms) (fun hne=>?_))
 have hne:1 ≤ ss.length:=by
  have:¬ ((ss.map fun s:Nat=>(s:Int)).length:Int)=0:=by simpa using hne
  rw [List.length_map] at this; omega
 have hdu:DOk H ⟨d.Hooks,wk d.Rows a ss⟩:=⟨d1,by show 1 ≤ (wk d.Rows a ss).length∧(wk d.Rows a ss).length ≤ 30; omega,hwr⟩
 have hcl:(wv h'.Warps (wk d.Rows a ss)).length=ss.length:=by simp [wv,hwl]
 refine qbind _ (c30 h1) (qbind _ (c11 _ (by show (wk d.Rows a ss).length ≤ _; omega)) (qbind _ (g15 hH h1 hdu) (qbind _ (c30 h1) (qbind _ (c19 (by show (wv h'.Warps (wk d.Rows a ss)).length ≤ _; omega)) (Yes.bind ((g16 hH h1 hcov (by omega) hwr).mono fun yA hyA=>?_))))))
 obtain ⟨y1,y2⟩:=hyA
 refine Yes.jn (qbind false (Yes.eq (qskip rfl (qskip (by rw [y2]; rfl) (qbind true (by rw [y1]; exact c13 (by omega)) (Yes.some rfl))))) (qskip rfl ?_))
 have hG:=G_true (R:=d.Rows) ss a hs
 have hfl:=fs_le ss
 refine qbind _ (c59 hb) ?_
 rw [y1]
 refine Yes.bind ((g19 hH hb hwr (by omega) ⟨a,halt,by omega⟩).mono fun o ho=>?_)
 obtain ⟨o1,⟨m,o2,o3⟩,b,ts,q1,q2,q3,q4,q5,q6⟩:=ho
 have om:=o3 a halt
 have w:f11 ⟨(H:Int),crd d.Rows⟩ o.1 o.2.1=some (wk d.Rows a ss,((ep d.Rows.length b ts:Nat):Int),0):=by
  rw [q1,q3,g11 hH hb q2 q4 (by omega),q6]
 refine qbind _ w (qbind _ (g15 hH h1 hdu) (Yes.bind (Yes.mono (Q':=fun r=>r=true) ?_ fun _ h=>Yes.some h)))
 refine qtake (by rw [o1]; rfl) (qtake rfl (qtake rfl (qtake (decide_eq_true (by omega)) (qtake (decide_eq_true (by omega)) (qbind true (c32 (by show (wv h'.Warps (wk d.Rows a ss)).length ≤ _; omega)) (qtake rfl ends))))))
end Go.Proofs.YtkfdjkkbnfohjaaGreatDoor
