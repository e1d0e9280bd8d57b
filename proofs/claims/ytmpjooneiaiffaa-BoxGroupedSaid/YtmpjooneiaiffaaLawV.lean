/- BoxGrouped: prefixes of orders, groups of one, groups that are joined. -/
import Derived.Test.YtmpjooneiaiffaaLawGF
import Derived.Test.YtmpjooneiaiffaaLawT
set_option maxRecDepth 8000
namespace Go.Proofs.Ytmpjooneiaiffaa
open Go.RowKit
open Classical

theorem cR_take {l : BoxLoom} : ∀ (cs : List Int) (k : Nat) {r : Gu}, cs.length ≤ 1000 → Rok l r → cR (nbx l 0) (nbx l 1) (cs.take k) r ≤ cR (nbx l 0) (nbx l 1) cs r
 | [],k,r,_,_=>by simp
 | c :: cs,0,r,hn,hr=>by
  obtain ⟨l',h1,h2,rfl⟩:=hr
  rw [List.take_zero,Ao _ h1 h2,Ao _ h1 h2,cL]
  exact (Lk (c :: cs) h1 hn).1
 | c :: cs,k + 1,r,hn,hr=>by
  rw [List.take_succ_cons,cR,Se]
  rcases (Se (φ:=cRF c (cR (nbx l 0) (nbx l 1) cs)) (t:=cR (nbx l 0) (nbx l 1) (c :: cs) r) (pkR (nbx l 0) (nbx l 1) r) Ti).1 (by rw [cR]; exact Int.le_refl _) with h | ⟨s,hs,v,h1,h2⟩
  ·exact .inl h
  ·unfold cRF at h1
   split at h1
   ·rename_i hc
    cases h1
    have ih:=cR_take cs k (by simp at hn; omega) (hr.pk hs).1
    exact .inr ⟨s,hs,_,by unfold cRF; rw [if_pos hc],by omega⟩
   ·cases h1
theorem cL_take {l:BoxLoom} (hl:LOk l) {cs:List Int} (hn:cs.length ≤ 1000) (k:Nat):cL (cs.take k) l ≤ cL cs l:=by
 rw [← Ao _ hl rfl,← Ao cs hl rfl]
 exact cR_take cs k hn ⟨l,hl,rfl,rfl⟩
theorem OsG.sgl : ∀ {cs o : List Int}, OsG (sgl cs) o ↔ o = cs
 | [],o=>Iff.rfl
 | c :: cs,o=>by
  constructor
  ·rintro ⟨p, q, rfl, hp, hq⟩
   rw [List.perm_singleton.1 hp,(OsG.sgl (cs:=cs)).1 hq]; rfl
  ·rintro rfl
   exact ⟨[c],cs,rfl,List.Perm.refl _,(OsG.sgl (cs:=cs)).2 rfl⟩
theorem OsG.join {a b:List Int} {gs:List (List Int)} {o:List Int} (h:OsG (a :: b :: gs) o):OsG ((a ++ b) :: gs) o:=by
 obtain ⟨p,_,rfl,hp,q,r,rfl,hq,hr⟩:=h
 exact ⟨p ++ q,r,by simp,hp.append hq,hr⟩
theorem OsG.flat : ∀ gs : List (List Int), OsG gs gs.flatten
 | []=>rfl
 | g :: gs=>⟨g,gs.flatten,rfl,List.Perm.refl _,OsG.flat gs⟩
theorem OsG.seg : ∀ {gs : List (List Int)} {o : List Int} {i : Nat} (h : i < gs.length), OsG gs o → ((o.drop (gs.take i).flatten.length).take gs[i].length).Perm gs[i]
 | [],_,_,h,_=>by simp at h
 | g :: gs,_,0,_,⟨p,q,h,hp,hq⟩=>by
  subst h
  simp only [List.take_zero,List.flatten_nil,List.length_nil,List.drop_zero,List.getElem_cons_zero]
  rw [← hp.length_eq,List.take_left]; exact hp
 | g :: gs,_,i + 1,h,⟨p,q,hh,hp,hq⟩=>by
  subst hh
  have ih:=OsG.seg (i:=i) (by simpa using h) hq
  simp only [List.take_succ_cons,List.flatten_cons,List.length_append,List.getElem_cons_succ]
  have e:∀ n,(p ++ q).drop (p.length + n)=q.drop n:=fun n=>by simp [List.drop_append]
  rw [← hp.length_eq,e]
  exact ih
end Go.Proofs.Ytmpjooneiaiffaa
/- Plain laws: the yarn that is left; the picks of bytes, exactly. -/
set_option maxRecDepth 8000
namespace Go.Proofs.Ytmpjooneiaiffaa
open Go.RowKit
open Classical

/-! ### The picks of bytes -/
theorem bx_sum {v:Vector (Vector Int 4) 2} {m:BoxLoom} (hv:BxV v m) (hm:LOk m) {p:Gf} {L R:Nat} (hL:p.Left=L) (hR:p.Right=R) (hL4:L < 4) (hR4:R < 4) {n:BoxLoom} {i:Nat} {q:Int} (ho:Ka m p=some (n,i,q)):v[0][L] + v[1][R]=(i:Int) + 1:=by
 have e0:=hv 0 L (by omega) hL4
 have e1:=hv 1 R (by omega) hR4
 rw [e0,e1]
 obtain ⟨_,_,_,⟨_,g⟩ | ⟨_,g⟩⟩:=Uz hm.dst ho
 ·rw [show inX m.Shuttles ((1:Nat):Int) (R:Int)=-1 from Jk (hR ▸ g.free),show inX m.Shuttles ((0:Nat):Int) (L:Int)=i from Jg hm.dst (hL ▸ g.at0)]; omega
 ·rw [show inX m.Shuttles ((0:Nat):Int) (L:Int)=-1 from Jk (hL ▸ g.free),show inX m.Shuttles ((1:Nat):Int) (R:Int)=i from Jg hm.dst (hR ▸ g.at0)]; omega
theorem s39x {l:BoxLoom} (hl:LOk l) (x:Yb) (hP:x.Picks.length ≤ 9223372036854775807) {mst:Nat} (hmst:mst ≤ 24):Yes (f39 x l (mst:Int)) (fun r=>∃ n,thr l r.1=some n∧(∀ p ∈ r.1,okP l.Boxes p=true)∧BxV r.2.2.1 n∧r.1.length ≤ mst∧r.2.1=(thl l r.1).map (fun i:Nat=>(i:Int))∧r.2.2.2=mvt l r.1):=by
 have byte:∀ u:UInt8,(0:Int) ≤ (u.toNat:Int)∧(u.toNat:Int) ≤ 255:=fun u=>by have:=u.toNat_lt; omega
 have b0:=hl.box (i:=0) (by omega)
 have b1:=hl.box (i:=1) (by omega)
 have hb0:idx l.Boxes (0:Int)=some (l.Boxes.getD 0 0):=Rx hl.len (i:=0) (by omega)
 have hb1:idx l.Boxes (1:Int)=some (l.Boxes.getD 1 0):=Rx hl.len (i:=1) (by omega)
 unfold f39
 refine Yes.bind ((s45 hl).mono fun v0 hv0=>Gj _ (Xu hl.len (i:=0) (by omega)) (Gj _ (Xu hl.len (i:=1) (by omega)) (Yes.bind ?_)))
 refine Yes.lp (fun s => ∃ k : Nat, s.2.2.2.2.2 = (k : Int) ∧ k ≤ x.Picks.length ∧ s.1.length ≤ mst ∧ (∀ p ∈ s.1, okP l.Boxes p = true) ∧ s.2.1 = (thl l s.1).map (fun i : Nat => (i : Int)) ∧ s.2.2.2.1 = mvt l s.1 ∧ ∃ m, thr l s.1 = some m ∧ BxV s.2.2.1 m ∧ s.2.2.2.2.1 = (⟨List.toArray [m.At.getD 0 0, m.At.getD 1 0], rfl⟩ : Vector Int 2))
  (fun s=>x.Picks.length + 1 - s.2.2.2.2.2.toNat) ⟨0,rfl,by omega,by simp,by simp,by simp [thl],by simp [mvt],l,rfl,hv0,rfl⟩ (by simp; omega) ?_
 rintro ⟨ps,sh,v,o7,at',u⟩ kk ⟨k,rfl,hk,c2,c3,c6,c7,m,c4,c5,c8⟩ hk'
 simp only at c2 c3 c4 c5 c6 c7 c8
 obtain ⟨m1,m2,_⟩:=thr_ok hl c3 c4
 have hend:∀ b:Bool,b=false→Yes (some (ps,sh,v,o7)) fun r=>Yes (some (r.1,r.2.1,r.2.2.1,r.2.2.2)) fun r=>∃ n,thr l r.1=some n∧(∀ p ∈ r.1,okP l.Boxes p=true)∧BxV r.2.2.1 n∧r.1.length ≤ mst∧r.2.1=(thl l r.1).map (fun i:Nat=>(i:Int))∧r.2.2.2=mvt l r.1:=fun _ _=>Yes.some (Yes.some ⟨m,c4,c3,c5,c2,c6,c7⟩)
 refine Yes.jn (Yes.bind (Yes.cond (fun hc=>Yes.some (Yes.cond (fun hc2=>?_) (fun hc2=>hend _ hc2))) (fun hc=>Yes.some (hend false rfl))))
 have hkl:k < x.Picks.length:=by have:(k:Int) < (x.Picks.length:Int):=of_decide_eq_true hc; omega
 have hlt:ps.length < mst:=by have:(ps.length:Int) < (mst:Int):=of_decide_eq_true hc2; omega
 have hby:=byte x.Picks[k]
 have next:∀ ps' sh' v' o' a',ps'.length ≤ mst→(∀ p ∈ ps',okP l.Boxes p=true)→sh'=(thl l ps').map (fun i:Nat=>(i:Int))→o'=mvt l ps'→(∃ m,thr l ps'=some m∧BxV v' m∧a'=(⟨List.toArray [m.At.getD 0 0,m.At.getD 1 0],rfl⟩:Vector Int 2))→Yes (kk (ps',sh',v',o',a',w64 ((k:Int) + 1))) fun r=>Yes (some (r.1,r.2.1,r.2.2.1,r.2.2.2)) fun r=>∃ n,thr l r.1=some n∧(∀ p ∈ r.1,okP l.Boxes p=true)∧BxV r.2.2.1 n∧r.1.length ≤ mst∧r.2.1=(thl l r.1).map (fun i:Nat=>(i:Int))∧r.2.2.2=mvt l r.1:=fun ps' sh' v' o' a' d2 d3 d4 d5 d6=>by
  rw [Tl (by omega) (by omega)]
  refine hk' _ ⟨k + 1,by simp,by omega,d2,d3,d4,d5,d6⟩ ?_
  show x.Picks.length + 1 - ((k:Int) + 1).toNat < x.Picks.length + 1 - ((k:Int)).toNat
  omega
 obtain ⟨L,hL,hL2⟩:∃ L:Nat,(x.Picks[k].toNat:Int) % l.Boxes.getD 0 0=L∧(L:Int) < l.Boxes.getD 0 0:=by
  have e1:=Int.emod_nonneg (x.Picks[k].toNat:Int) (show l.Boxes.getD 0 0 ≠ 0 by omega)
  have e2:=Int.emod_lt_of_pos (x.Picks[k].toNat:Int) (show 0 < l.Boxes.getD 0 0 by omega)
  exact ⟨((x.Picks[k].toNat:Int) % l.Boxes.getD 0 0).toNat,by omega,by omega⟩
 obtain ⟨R,hR,hR2⟩:∃ R:Nat,(x.Picks[k].toNat:Int) / 8 % l.Boxes.getD 1 0=R∧(R:Int) < l.Boxes.getD 1 0:=by
  have e1:=Int.emod_nonneg ((x.Picks[k].toNat:Int) / 8) (show l.Boxes.getD 1 0 ≠ 0 by omega)
  have e2:=Int.emod_lt_of_pos ((x.Picks[k].toNat:Int) / 8) (show 0 < l.Boxes.getD 1 0 by omega)
  exact ⟨((x.Picks[k].toNat:Int) / 8 % l.Boxes.getD 1 0).toNat,by omega,by omega⟩
 have hL4:L < 4:=by omega
 have hR4:R < 4:=by omega
 refine Yes.jn (Yes.bind (Gj _ (Wu hkl) (Gj _ hb0 (Gj _ (Yy hby.1 (by omega)) (Gj _ (Wu hkl) (Gj _ (quo_nn8 hby.1 hby.2) (Gj _ hb1 (Gj _ (Yy (by omega) (by omega)) ?_))))))))
 rw [hL,hR]
 have hpk:okP l.Boxes ⟨(L:Int),(R:Int)⟩=true:=Uu.2 ⟨⟨by show (0:Int) ≤ (L:Int); omega,by show (L:Int) ≤ _; omega⟩,by show (0:Int) ≤ (R:Int); omega,by show (R:Int) ≤ _; omega⟩
 refine Gj (⟨(L:Int),(R:Int)⟩:Gf) rfl (Gj _ (Hu v (i:=0) (by omega)) (Gj _ (Hu _ hL4) (Gj _ (Hu v (i:=1) (by omega)) (Gj _ (Hu _ hR4) (Yes.jn (Yes.cond (fun hc3=>Yes.some ?_) (fun hc3=>?_)))))))
 ·exact next _ _ _ _ _ (by omega) c3 c6 c7 ⟨m,c4,c5,c8⟩
 ·obtain ⟨n, i, q, ho, hbx⟩ := bx_step (p := ⟨(L : Int), (R : Int)⟩) c5 m1 (by rw [m2]; exact hpk) rfl rfl hL4 hR4 hc3
  have hsum:=bx_sum c5 m1 (p:=⟨(L:Int),(R:Int)⟩) rfl rfl hL4 hR4 ho
  obtain ⟨_,_,_,hil,_⟩:=Ja m1 (by rw [m2]; exact hpk) ho
  have hfew:=m1.few
  obtain ⟨hq,_,hna,_⟩:=Uz m1.dst ho
  have hmb:=Py hl c3
  have hth:thr l (ps ++ [(⟨(L:Int),(R:Int)⟩:Gf)])=some n:=by rw [Pb,c4,Option.bind_some,thr_one,ho]; rfl
  have ma0:=m1.at (i:=0) (by omega)
  have ma1:=m1.at (i:=1) (by omega)
  have mb0:=m1.box (i:=0) (by omega)
  have mb1:=m1.box (i:=1) (by omega)
  have hsl:sh.length ≤ ps.length:=by rw [c6,List.length_map]; exact thl_len
  refine Gj _ (Hu v (i:=0) (by omega)) (Gj _ (Hu _ hL4) (Gj _ (Hu _ (i:=1) (by omega)) (Gj _ (Hu _ hR4) (Yes.bind (Yes.apnd (by simp; omega) (by simp; omega) (Yes.bind (Yes.apnd (by simp; omega) (by simp; omega) (Yes.some ?_))))))))
  refine next _ _ _ _ _ (by simp; omega) (fun p hp=>?_) ?_ ?_ ⟨n,hth,hbx,by rw [hna]; rfl⟩
  ·rcases List.mem_append.1 hp with hp | hp
   ·exact c3 p hp
   ·rw [List.mem_singleton.1 hp]; exact hpk
  ·rw [Fw _ _ c4, thl, ho, List.map_append, ← c6]
   have:w64 (w64 (v[0][L] + v[1][R]) - 1)=(i:Int):=by rw [hsum,Tl (n:=(i:Int) + 1) (by omega) (by omega),Tl (by omega) (by omega)]; omega
   rw [this]; rfl
  ·rw [Lp _ _ c4, mvt, ho]
   show w64 (o7 + w64 (w64 (w64 (Wk at'[0] (L:Int) - Wm at'[0] (L:Int)) + Wk at'[1] (R:Int)) - Wm at'[1] (R:Int)))=mvt l ps + (q + mvt n [])
   have h0:at'[0]=m.At.getD 0 0:=by rw [c8]; rfl
   have h1:at'[1]=m.At.getD 1 0:=by rw [c8]; rfl
   rw [h0,h1,Nn (by omega) (by omega) (by omega) (by omega),mvt,c7]
   have hq2:max (m.At.getD 0 0) (L:Int) - min (m.At.getD 0 0) (L:Int) + (max (m.At.getD 1 0) (R:Int) - min (m.At.getD 1 0) (R:Int))=q:=by
    rw [hq]; unfold mvs; simp only; omega
   have hqb:0 ≤ q∧q ≤ 6:=(Ja m1 (by rw [m2]; exact hpk) ho).2.2.2.2
   rw [hq2,Tl (by omega) (by omega)]; omega
end Go.Proofs.Ytmpjooneiaiffaa
