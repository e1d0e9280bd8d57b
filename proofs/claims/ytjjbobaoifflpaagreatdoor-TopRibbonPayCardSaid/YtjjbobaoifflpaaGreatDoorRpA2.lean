/- Laws of plain functions, part 2. -/
import Derived.Test.YtjjbobaoifflpaaGreatDoorRpA1
set_option maxRecDepth 8000
namespace Go.Proofs.YtjjbobaoifflpaaGreatDoor
open Go.RowKit
open Classical
theorem F7 {R : List Int} : ∀ {ss : List Nat} {a s : Nat}, wkz R a (ss ++ [s]) = wkz R a ss ++ [R.getD (epz R.length a ss) 0]
 | [],_,_=>rfl
 | t :: ss,a,s=>by rw [List.cons_append,wkz,wkz,epz,F7]; rfl
theorem F9 {n : Nat} : ∀ {ss : List Nat} {a s : Nat}, epz n a (ss ++ [s]) = (epz n a ss + s) % n
 | [],_,_=>rfl
 | t :: ss,a,s=>by rw [List.cons_append,epz,epz,F9]
theorem B2 {R : List Int} : ∀ {ss : List Nat} {a : Nat}, (wkz R a ss).length = ss.length
 | [],_=>rfl
 | t :: ss,a=>by rw [wkz,List.length_cons,B2]; rfl
theorem Aa {n : Nat} (hn : 0 < n) : ∀ {ss : List Nat} {a : Nat}, a < n → epz n a ss < n
 | [],_,h=>h
 | t :: ss,a,_=>by rw [epz]; exact Aa hn (Nat.mod_lt _ hn)
theorem g11z {H : Nat} (hH : 1 ≤ H ∧ H ≤ 12) {R : List Int} (hb : BOkz H ⟨H, Hy R⟩) {a : Nat} (ha : a < R.length) {ss : List Nat} (hs : ∀ s ∈ ss, s ≤ 2) (hl : ss.length ≤ 60) :
  f57 ⟨H,Hy R⟩ (a:Int) (ss.map fun s:Nat=>(s:Int))=some (wkz R a ss,((epz R.length a ss:Nat):Int),0):=by
 have h2:=hb.2.1
 have hcl:=J3 R
 have h2:1 ≤ (Hy R).length∧(Hy R).length ≤ 12:=h2
 refine Yes.eq ?_
 unfold f57
 refine Q6 _ (c111z hH hb) (Yes.jn (Wp rfl (Q6 true (Ph _ _ _ (by simp) fun x hx=>?_) (Wp rfl (Wp (decide_eq_false (by rw [List.length_map]; omega)) (Q6 true (Ph _ _ _ (by rw [List.length_map]; omega) fun x hx=>?_) (Wp rfl ?_)))))))
 ·rw [List.mem_singleton.1 hx]
  show 0 ≤ (a:Int)∧(a:Int) ≤ w64 (((Hy R).length:Int) - 1)
  rw [Qa (by omega) (by omega)]; omega
 ·obtain ⟨s, h, rfl⟩ := List.mem_map.1 hx
  have:=hs s h
  omega
 refine Yes.bind (Yes.mono (Q':=fun r=>r=(wkz R a ss,((epz R.length a ss:Nat):Int))) ?_ fun r hr=>Yes.some (by rw [hr]))
 refine Yes.upto2 ss.length (by omega) (fun i rows b=>rows=wkz R a (ss.take i)∧b=((epz R.length a (ss.take i):Nat):Int)) ⟨rfl,rfl⟩ (fun i rows b k hi hI hkz=>?_) (fun rows b k hI=>?_)
 ·obtain ⟨i1, i2⟩ := hI
  have hil:i < (ss.map fun s:Nat=>(s:Int)).length:=by rw [List.length_map]; exact hi
  have hpos:=Aa (n:=R.length) (by omega) (ss:=ss.take i) ha
  have hrl:rows.length=i:=by rw [i1,B2]; simp; omega
  have hs2:=hs _ (List.getElem_mem hi)
  subst i2
  refine S5 (decide_eq_true (by rw [List.length_map]; omega)) (Yes.bind (Q6 ((ss[i]:Nat):Int) (by rw [L8 hil]; simp) (Q6 _ (E5 hpos) (Yes.bind (Yes.apnd (by rw [hrl]; simp; omega) (by rw [hrl]; simp; omega) (Q6 _ (Ig hpos (by omega) hs2) (Yes.some (hkz _ _ ⟨?_,?_⟩))))))))
  ·rw [i1,J5 hi,F7,List.getD_eq_getElem?_getD,List.getElem?_eq_getElem hpos]; rfl
  ·rw [J5 hi,F9]
 ·obtain ⟨i1, i2⟩ := hI
  rw [List.take_length] at i1 i2
  exact Wp (decide_eq_false (by rw [List.length_map]; omega)) (Yes.some (by rw [i1,i2]))
theorem first (i n m:Nat) (hi:i < max 1 (min n m)):(bif ((i:Int) == (0:Int)) then some (true) else bif (decide ((i:Int) < (n:Int))) then some ((decide ((i:Int) < (m:Int)))) else some (false))=some true:=by
 refine Yes.eq (Yes.cond (fun _=>Yes.some rfl) (fun hc=>?_))
 have h0:¬ (i:Int)=0:=by simpa using hc
 exact Kj (decide_eq_true (by omega)) (Yes.some (decide_eq_true (by omega)))
theorem last (n m:Nat) (hm:1 ≤ m):(bif (((max 1 (min n m):Nat):Int) == (0:Int)) then some (true) else bif (decide (((max 1 (min n m):Nat):Int) < (n:Int))) then some ((decide (((max 1 (min n m):Nat):Int) < (m:Int)))) else some (false))=some false:=by
 refine Yes.eq (T8 (beq_eq_false_iff_ne.2 (by omega)) (Yes.cond (fun hc=>?_) (fun _=>Yes.some rfl)))
 have:=of_decide_eq_true hc
 exact Yes.some (decide_eq_false (by omega))
def hx (x:UInt8):Nat:=2 + x.toNat % 7
theorem P3 (x:UInt8):2 ≤ hx x∧hx x ≤ 8:=by unfold hx; omega
theorem hx_eq (x:UInt8):Ha ((x.toNat:Nat):Int) 7=some (((x.toNat % 7:Nat):Int))∧w64 (2 + ((x.toNat % 7:Nat):Int))=((hx x:Nat):Int):=by
 refine ⟨by rw [Dw (by omega) (by omega)]; rfl,?_⟩
 unfold hx
 rw [Qa (by omega) (by omega)]; omega
def D6 (H:Nat) (d:Design):Prop:=d.Hooks=H∧(1 ≤ d.Rows.length∧d.Rows.length ≤ 12)∧∀ r ∈ d.Rows,0 ≤ r∧r < ((2 ^ H:Nat):Int)
theorem s16d (x:UInt8) (rows:List UInt16) (hl:rows.length ≤ 9223372036854775807):Yes (f17 x rows) (D6 (hx x)):=by
 have hH:=P3 x
 unfold f17
 refine G3 _ (hx_eq x).1 ?_
 rw [(hx_eq x).2]
 generalize hx x=H at hH ⊢
 have hp:=Dl (H:=H) (by omega)
 refine Yes.bind (Yes.mono (Q':=D6 H) ?_ fun d hd=>Yes.some hd)
 refine Yes.upto (max 1 (min rows.length 12)) (by omega) (fun i d=>d.Hooks=H∧d.Rows.length=i∧∀ r ∈ d.Rows,0 ≤ r∧r < ((2 ^ H:Nat):Int)) ⟨rfl,rfl,by simp⟩ (fun i d k hi hI hk=>?_) (fun d k hI=>?_)
 ·obtain ⟨i1, i2, i3⟩ := hI
  have h2:(2:Int) ≤ ((2 ^ H:Nat):Int):=by
   have:2 ^ 1 ≤ 2 ^ H:=Nat.pow_le_pow_right (by omega) (by omega)
   omega
  refine Yes.jn (G3 true (first i _ 12 hi) (Kj rfl (Yes.bind (Yes.bind (Yes.mono (Q':=fun r=>0 ≤ r∧r < ((2 ^ H:Nat):Int)) ?_ fun r hr=>?_)))))
  ·refine Yes.cond (fun hc => ?_) (fun _ => Yes.some (by omega))
   have hlt:i < rows.length:=by have:=of_decide_eq_true hc; omega
   rw [i1,Fi (by omega) (by omega)]
   refine G3 _ (Yl hlt) (G3 _ (Xh (by omega)) (G3 _ (Dw (by omega) (by omega)) (Yes.some ⟨Int.emod_nonneg _ (by omega),Int.emod_lt_of_pos _ (by omega)⟩)))
  ·refine Yes.bind (Yes.apnd (by rw [i2]; simp; omega) (by rw [i2]; simp; omega) (Yes.some (hk _ ⟨i1, by simp [i2], fun a ha => ?_⟩)))
   rcases List.mem_append.1 ha with ha | ha
   ·exact i3 a ha
   ·rw [List.mem_singleton.1 ha]; exact hr
 ·obtain ⟨i1, i2, i3⟩ := hI
  exact Yes.jn (G3 false (last _ 12 (by omega)) (T8 rfl (Yes.some ⟨i1,by omega,i3⟩)))
def L6 (H:Nat) (l:Gi):Prop:=D6 H l.Design∧HOkz H l.Harness
theorem s4m (x:UInt8) (rows:List UInt16) (hl:rows.length ≤ 9223372036854775807):Yes (f4 x rows) (L6 (hx x)):=by
 have hH:=P3 x
 unfold f4
 refine Yes.bind ((s16d x rows hl).mono fun d hd=>?_)
 generalize hx x=H at hH hd ⊢
 rw [hd.1]
 refine Yes.bind (Yes.mono (Q':=fun l=>l.Design=d∧l.Harness.Hooks=H∧l.Harness.Warps.length=H∧∀ a ∈ l.Harness.Warps,0 ≤ a∧a ≤ (H:Int) - 1) ?_ fun l hl=>?_)
 ·refine Yes.upto H (by omega) (fun i l => l.Design = d ∧ l.Harness.Hooks = H ∧ l.Harness.Warps.length = i ∧ ∀ a ∈ l.Harness.Warps, 0 ≤ a ∧ a ≤ (H : Int) - 1) ⟨rfl, rfl, rfl, by simp⟩ (fun i l k hi hI hk => ?_) (fun l k hI => ?_)
  ·obtain ⟨h1, h2, h3, h4⟩ := hI
   refine Yes.jn (Kj (decide_eq_true (by rw [h1,hd.1]; omega)) (Yes.bind (Yes.bind (Yes.apnd (by rw [h3]; simp; omega) (by rw [h3]; simp; omega) (Yes.some (hk _ ⟨h1,h2,by simp [h3],fun a ha=>?_⟩))))))
   rcases List.mem_append.1 ha with ha | ha
   ·exact h4 a ha
   ·rw [List.mem_singleton.1 ha]; omega
  ·obtain ⟨h1, h2, h3, h4⟩ := hI
   exact Yes.jn (T8 (decide_eq_false (by rw [h1,hd.1]; omega)) (Yes.some ⟨h1,h2,h3,h4⟩))
 ·obtain ⟨h1, h2, h3, h4⟩ := hl
  rw [h1,hd.1,Qa (n:=(H:Int) - 2) (by omega) (by omega)]
  refine Yes.bind (Yes.mono (Q':=L6 H) ?_ fun l hl=>Yes.some hl)
  refine Yes.lp (fun st=>∃ i:Nat,i ≤ H - 2∧st.2=((H - 2 - i:Nat):Int)∧st.1.Design=d∧st.1.Harness.Hooks=H∧st.1.Harness.Warps.length=H + i∧∀ a ∈ st.1.Harness.Warps,0 ≤ a∧a ≤ (H:Int) - 1) (fun st=>st.2.toNat) ⟨0,by omega,by show (H:Int) - 2=_; omega,h1,h2,h3,h4⟩ (by show ((H:Int) - 2).toNat < _; omega) ?_
  rintro ⟨l2,j⟩ k ⟨i,hi,hj,g1,g2,g3,g4⟩ hk
  simp only at hj g1 g2 g3 g4
  subst hj
  refine Yes.jn (Yes.cond (fun hc=>?_) (fun hc=>?_))
  ·have hc := of_decide_eq_true hc
   refine Yes.bind (Yes.bind (Yes.apnd (by rw [g3]; simp; omega) (by rw [g3]; simp; omega) (Yes.some (hk _ ⟨i + 1,by omega,?_,g1,g2,by simp [g3]; omega,fun a ha=>?_⟩ ?_))))
   ·show w64 (((H - 2 - i : Nat) : Int) - 1) = _
    rw [Qa (by omega) (by omega)]; omega
   ·rcases List.mem_append.1 ha with ha | ha
    ·exact g4 a ha
    ·rw [List.mem_singleton.1 ha]; omega
   ·show (w64 (((H - 2 - i : Nat) : Int) - 1)).toNat < _
    rw [Qa (by omega) (by omega)]
    show _ < (((H - 2 - i:Nat):Int)).toNat
    omega
  ·exact Yes.some ⟨g1 ▸ hd,g2,by omega,g4⟩
def Ym (l:Gi):Tq:=⟨[⟨⟨[108,105,108,121]⟩,l.Harness⟩],[⟨⟨[114,111,115,101]⟩,⟨l.Design.Hooks,Hy l.Design.Rows⟩⟩]⟩
theorem M7 (rs:List Int) (r:Int):Hy (rs ++ [r])=Hy rs ++ [⟨rs.length,r,false⟩]:=by unfold Hy; rw [List.mapIdx_concat]
theorem s21m (xs:List Int) (h:xs.length ≤ 1000):f25 xs=some xs:=by
 refine Yes.eq ?_
 unfold f25
 exact Yes.bind (Yes.apnd (by simp; omega) (by simp; omega) (Yes.some rfl))
theorem s9m {H:Nat} {l:Gi} (h:L6 H l):f11 l=some (Ym l):=by
 obtain ⟨⟨h1,h2,h3⟩,k1,k2,k3⟩:=h
 refine Yes.eq ?_
 unfold f11
 refine Yes.bind (Yes.mono (Q':=fun b=>b=⟨l.Design.Hooks,Hy l.Design.Rows⟩) ?_ fun b hb=>?_)
 ·refine Yes.upto l.Design.Rows.length (by omega) (fun i b => b = ⟨l.Design.Hooks, Hy (l.Design.Rows.take i)⟩) rfl (fun i b k hi hI hk => ?_) (fun b k hI => ?_)
  ·subst hI
   refine Yes.jn (Kj (decide_eq_true (by omega)) (Yes.bind (G3 _ (Yl hi) (Yes.bind (Yes.apnd ?_ ?_ (Yes.some (hk _ ?_)))))))
   ·show ((Hy (l.Design.Rows.take i)).length + _) * 24 ≤ _
    rw [J3,List.length_take]; simp; omega
   ·show (Hy (l.Design.Rows.take i)).length + _ ≤ _
    rw [J3,List.length_take]; simp; omega
   ·rw [J5 hi,M7,List.length_take,Nat.min_eq_left (by omega)]
  ·subst hI
   rw [List.take_length]
   exact Yes.jn (T8 (decide_eq_false (by omega)) (Yes.some rfl))
 ·subst hb
  refine G3 _ (s21m _ (by omega)) (Yes.some ?_)
  rfl
theorem bok6 {H:Nat} {d:Design} (h:D6 H d):BOkz H ⟨d.Hooks,Hy d.Rows⟩:=by
 obtain ⟨h1,h2,h3⟩:=h
 refine ⟨h1,by rw [J3]; exact h2,fun c hc=>?_⟩
 obtain ⟨i,hi,rfl⟩:=List.getElem_of_mem hc
 have hi':i < d.Rows.length:=by rw [← J3]; exact hi
 rw [Fa hi hi']
 have:=h3 d.Rows[i] (List.getElem_mem hi')
 exact ⟨⟨by simp,by show (i:Int) ≤ 59; omega⟩,this.1,this.2⟩
theorem b45 (xs:List Gw) (φ:Gw→Option Bool) (p:Gw→Bool) (hl:xs.length < 9223372036854775807) (h:∀ a ∈ xs,φ a=some (p a)):f55 xs φ=some (xs.any p):=by
 obtain ⟨r,hr,hq⟩:=Yu xs φ p hl h
 have hr:f91 xs φ=some r:=hr
 unfold f55; rw [hr]; simp only [Option.bind_some]; rw [Jw hq]
theorem b46 (xs:List Gj) (φ:Gj→Option Bool) (p:Gj→Bool) (hl:xs.length < 9223372036854775807) (h:∀ a ∈ xs,φ a=some (p a)):f56 xs φ=some (xs.any p):=by
 obtain ⟨r,hr,hq⟩:=Yu xs φ p hl h
 have hr:f92 xs φ=some r:=hr
 unfold f56; rw [hr]; simp only [Option.bind_some]; rw [Jw hq]
theorem n40 (t:Gw):f50 [t] (fun a0=>f51 a0)=some [t.Name]:=by kernel_rfl
theorem n42 (t:Gj):f52 [t] (fun a0=>f53 a0)=some [t.Name]:=by kernel_rfl
theorem n44a:f54 [⟨[108,105,108,121]⟩]=some true:=by kernel_rfl
theorem n44b:f54 [⟨[114,111,115,101]⟩]=some true:=by kernel_rfl
theorem s18m {H:Nat} (hH:1 ≤ H∧H ≤ 12) {l:Gi} (h:L6 H l):f23 (Ym l)=some 0:=by
 have hb:=bok6 h.1
 have h37:f47 l.Harness=some 0:=c105z hH h.2
 have h39:f49 ⟨l.Design.Hooks,Hy l.Design.Rows⟩=some 0:=by
  refine Yes.eq ?_
  unfold f49
  exact G3 _ (c111z hH hb) (Yes.some rfl)
 have h36:∀ a ∈ (Ym l).Ties,f46 a=some false:=fun a ha=>by
  have ha:a=⟨⟨[108,105,108,121]⟩,l.Harness⟩:=by simpa [Ym] using ha
  subst ha
  refine Yes.eq ?_
  unfold f46
  exact G3 _ h37 (Yes.some rfl)
 have h38:∀ a ∈ (Ym l).Chains,f48 a=some false:=fun a ha=>by
  have ha:a=⟨⟨[114,111,115,101]⟩,⟨l.Design.Hooks,Hy l.Design.Rows⟩⟩:=by simpa [Ym] using ha
  subst ha
  refine Yes.eq ?_
  unfold f48
  exact G3 _ h39 (Yes.some rfl)
 refine Yes.eq ?_
 unfold f23
 refine Yes.jn (Yes.bind (T8 rfl (Yes.some (T8 rfl ?_))))
 refine G3 _ (n40 _) (G3 _ (n42 _) (Yes.jn (Yes.bind ?_)))
 refine G3 _ n44a (T8 rfl (G3 _ n44b (T8 rfl ?_)))
 refine G3 _ (b45 _ _ (fun _=>false) (by show 1 < _; omega) h36) (T8 rfl (G3 _ (b46 _ _ (fun _=>false) (by show 1 < _; omega) h38) (Yes.some (T8 rfl (Yes.some rfl)))))
theorem Eo:((List.range 16).all fun p=>p == 0 || f58 [1] (p:Int) == some (List.replicate p (1:Int)))=true:=by kernel_rfl
theorem s50r {p:Int} (h:1 ≤ p∧p ≤ 15):f58 [1] p=some ((List.replicate p.toNat 1).map fun s:Nat=>(s:Int)):=by
 obtain ⟨n,rfl⟩:∃ n:Nat,p=n:=⟨p.toNat,by omega⟩
 have:=List.all_eq_true.1 Eo n (List.mem_range.2 (by omega))
 have h0:¬ n=0:=by omega
 simp only [beq_iff_eq,Bool.or_eq_true,h0,false_or] at this
 rw [this,Int.toNat_natCast,List.map_replicate]; rfl
theorem Nu {R : List Int} : ∀ {ss : List Nat} {a : Nat}, a < R.length → ∀ r ∈ wkz R a ss, r ∈ R
 | [],_,_,_,h=>by cases h
 | s :: ss,a,ha,r,h=>by
  rw [wkz] at h
  rcases List.mem_cons.1 h with e | e
  ·rw [e,List.getD_eq_getElem?_getD,List.getElem?_eq_getElem ha]; exact List.getElem_mem ha
  ·exact Nu (Nat.mod_lt _ (by omega)) r e
def CyOk (n:Nat) (c:T4):Prop:=∃ a:Nat,c.card=a∧a < n
theorem s20r {H : Nat} (hH : 1 ≤ H ∧ H ≤ 12) {l : Gi} (h : L6 H l) {c : Z2} (hc : OkC c) {cy : T4} (hcy : CyOk l.Design.Rows.length cy) :
  Yes (f24 cy (Ym l) c) fun r=>(r.1.length:Int)=c.Picks∧r.2.1=0∧CyOk l.Design.Rows.length r.2.2:=by
 obtain ⟨h1,h2,h3,h4,h5⟩:=hc
 have hd:=h.1
 have hlen:=hd.2.1
 have hb:=bok6 hd
 have hk:=h.2
 unfold f24
 have e1:idx (Ym l).Chains c.Chain=some ⟨⟨[114,111,115,101]⟩,⟨l.Design.Hooks,Hy l.Design.Rows⟩⟩:=by rw [h3]; rfl
 have e2:idx (Ym l).Ties c.Tie=some ⟨⟨[108,105,108,121]⟩,l.Harness⟩:=by rw [h4]; rfl
 refine G3 _ e1 (G3 _ e2 (T8 ?_ (Yes.bind (Yes.some ?_))))
 ·show (l.Design.Hooks != l.Harness.Hooks) = false
  rw [hk.1,hd.1]; simp
 have hcy1:CyOk l.Design.Rows.length (bif cy.chain != w64 (c.Chain + 1) then ⟨w64 (c.Chain + 1),0⟩ else cy):=by
  cases cy.chain != w64 (c.Chain + 1) with
  | true=>exact ⟨0,rfl,by omega⟩
  | false=>exact hcy
 generalize (bif cy.chain != w64 (c.Chain + 1) then (⟨w64 (c.Chain + 1),0⟩:T4) else cy)=c1 at hcy1 ⊢
 obtain ⟨a,ha,han⟩:=hcy1
 refine G3 _ (s50r h5) ?_
 have hb:BOkz H ⟨(H:Int),Hy l.Design.Rows⟩:=hd.1 ▸ hb
 have hw:=g11z (H:=H) hH hb han (ss:=List.replicate c.Picks.toNat 1) (fun s hs=>by rw [List.eq_of_mem_replicate hs]; omega) (by rw [List.length_replicate]; omega)
 have hw:f57 ⟨l.Design.Hooks,Hy l.Design.Rows⟩ c1.card ((List.replicate c.Picks.toNat 1).map fun s:Nat=>(s:Int))=some (wkz l.Design.Rows a (List.replicate c.Picks.toNat 1),((epz l.Design.Rows.length a (List.replicate c.Picks.toNat 1):Nat):Int),0):=by rw [hd.1,ha]; exact hw
 refine G3 _ hw (T8 rfl ?_)
 have hdo:DOkz H ⟨l.Design.Hooks,wkz l.Design.Rows a (List.replicate c.Picks.toNat 1)⟩:=by
  refine ⟨hd.1,?_,fun r hr=>hd.2.2 r (Nu han r hr)⟩
  show 1 ≤ (wkz l.Design.Rows a (List.replicate c.Picks.toNat 1)).length∧(wkz l.Design.Rows a (List.replicate c.Picks.toNat 1)).length ≤ 30
  rw [B2,List.length_replicate]; omega
 refine G3 _ (g15z hH hk hdo) (Yes.some ⟨?_,rfl,_,rfl,Aa (by omega) han⟩)
 show (((wvz l.Harness.Warps (wkz l.Design.Rows a (List.replicate c.Picks.toNat 1))).length:Nat):Int)=c.Picks
 rw [wvz,List.length_map,B2,List.length_replicate]; omega
def K9 (k : Nat) : List Z2 → Int
 | []=>0
 | c :: l=>(if c.Loom=(k:Int) then c.Picks else 0) + K9 k l
theorem Dh {k : Nat} {c : Z2} : ∀ {l : List Z2}, K9 k (l ++ [c]) = K9 k l + (if c.Loom = (k : Int) then c.Picks else 0)
 | []=>by simp [K9]
 | d :: l=>by simp only [List.cons_append,K9,Dh]; omega
theorem Br {k : Nat} : ∀ {l : List Z2}, (∀ c ∈ l, OkC c) → 0 ≤ K9 k l ∧ K9 k l ≤ 15 * (l.length : Int)
 | [],_=>by simp [K9]
 | d :: l,h=>by
  have ih:=Br (k:=k) (l:=l) fun c hc=>h c (List.mem_cons_of_mem _ hc)
  have:=(h d (by simp)).2.2.2.2
  simp only [K9,List.length_cons]
  split <;> omega
theorem s8r {H : Nat} (hH : 1 ≤ H ∧ H ≤ 12) {l : Gi} (h : L6 H l) {logs : List (List UInt8)} {y : List Z2} (hy : Yj y) (hj : f19 logs = some (y, 0, 0)) :
  Yes (f10 (Ym l) logs) fun r=>r.2.2=0∧r.1.length=16∧∀ k:Nat,k < 16→∃ w,r.1[k]?=some w∧(w.length:Int)=K9 k y:=by
 have hlen:=h.1.2.1
 have hy12:=hy.1
 unfold f10
 refine G3 _ (s18m hH h) (T8 rfl (G3 _ hj (T8 rfl ?_)))
 refine Yes.upto y.length (by omega) (fun i z=>(z.1.length=16∧∀ c ∈ z.1,CyOk l.Design.Rows.length c)∧z.2.length=16∧∀ k:Nat,k < 16→∃ w,z.2[k]?=some w∧(w.length:Int)=K9 k (y.take i)) ⟨⟨rfl,fun c hc=>?_⟩,rfl,fun k hk=>⟨[],?_,rfl⟩⟩ (fun i z k hi hI hk=>?_) (fun z k hI=>?_)
 ·rw [List.eq_of_mem_replicate hc]; exact ⟨0,rfl,by omega⟩
 ·rw [List.getElem?_replicate,if_pos hk]
 ·obtain ⟨⟨a1, a2⟩, a3, a4⟩ := hI
  have hc:=hy.2.2 y[i] (List.getElem_mem hi)
  have hlo:=hc.2.1
  refine Kj (decide_eq_true (by show (i:Int) < (y.length:Int); omega)) (G3 _ (Yl hi) (T8 ?_ ?_))
  ·rw [hc.2.2.1,hc.2.2.2.1]; rfl
  obtain ⟨m,hm⟩:∃ m:Nat,(y[i]).Loom=m:=⟨(y[i]).Loom.toNat,by omega⟩
  have hm16:m < 16:=by omega
  have e1:idx z.1 (y[i]).Loom=some (z.1[m]'(by omega)):=by rw [hm]; exact Yl (by omega)
  refine G3 _ e1 (Yes.bind ((s20r hH h hc (a2 _ (List.getElem_mem _))).mono fun wv hwv=>?_))
  obtain ⟨w1,w2,w3⟩:=hwv
  refine T8 (by rw [w2]; rfl) ?_
  obtain ⟨w,hw,hwl⟩:=a4 m hm16
  have e2:idx z.2 (y[i]).Loom=some w:=by
   rw [hm]; unfold idx; rw [if_pos (by omega),Int.toNat_natCast]; exact hw
  have hr:=Br (k:=m) (l:=y.take i) fun c hc=>hy.2.2 c (List.mem_of_mem_take hc)
  have hti:(y.take i).length=i:=by rw [List.length_take]; omega
  rw [hti] at hr
  have hp:=hc.2.2.2.2
  refine G3 _ e2 (Yes.bind (Yes.apnd (by omega) (by omega) (hk _ ⟨⟨?_,fun c hcm=>?_⟩,?_,fun k hk16=>?_⟩)))
  ·show (z.1.set _ _).length = 16
   rw [List.length_set]; exact a1
  ·rcases List.mem_or_eq_of_mem_set hcm with hcm | rfl
   ·exact a2 c hcm
   ·exact w3
  ·show (z.2.set _ _).length = 16
   rw [List.length_set]; exact a3
  ·show ∃ w', (z.2.set (y[i]).Loom.toNat (w ++ wv.1))[k]? = some w' ∧ _
   rw [hm,Int.toNat_natCast,List.take_succ_eq_append_getElem hi,Dh,hm,List.getElem?_set]
   by_cases hkm:m=k
   ·subst hkm
    rw [if_pos rfl,if_pos (by omega)]
    refine ⟨_,rfl,?_⟩
    rw [List.length_append,if_pos rfl]; omega
   ·rw [if_neg hkm, if_neg (by omega)]
    obtain ⟨w',h1,h2⟩:=a4 k hk16
    exact ⟨w',h1,by omega⟩
 ·obtain ⟨_, a3, a4⟩ := hI
  refine T8 (decide_eq_false (by show ¬ (y.length:Int) < (y.length:Int); omega)) (Yes.some ⟨rfl,a3,?_⟩)
  rw [List.take_length] at a4
  exact a4
theorem and1 (n:Int):Wa .and n 1=0 ∨ Wa .and n 1=1:=by
 have h:Wa .and n 1=w64 (((BitVec.ofInt 64 n &&& BitVec.ofInt 64 1).toNat:Nat):Int):=rfl
 rw [h,BitVec.toNat_and,show (BitVec.ofInt 64 1).toNat=1 from rfl,Nat.and_one_is_mod]
 rcases Nat.mod_two_eq_zero_or_one (BitVec.ofInt 64 n).toNat with e | e <;> rw [e]
 ·exact .inl rfl
 ·exact .inr rfl
theorem wu_pos {n:Int} (h:0 ≤ n∧n ≤ 100):T3 n=n:=Fi (by omega) (by omega)
def Og (x:List Z2) (z:List Z2 × List Z2):Prop:=z.1.Sublist x∧z.2.Sublist x∧z.1.length + z.2.length=x.length∧(∀ c,c ∈ x ↔ c ∈ z.2 ++ z.1)∧∀ c ∈ z.2,∀ d ∈ z.1,c.Day ≠ d.Day
theorem Lu {α:Type} {a b:List α} (h:a.Sublist b) (c:α):(a ++ [c]).Sublist (b ++ [c]):=h.append (List.Sublist.refl _)
theorem Pp {α:Type} {a b:List α} (h:a.Sublist b) (c:α):a.Sublist (b ++ [c]):=h.trans (List.sublist_append_left _ _)
theorem s7h {y:List Z2} (hy:Yj y) (w:UInt16):Yes (f7h y w) (Og y):=by
 have hy12:=hy.1
 unfold f7h
 refine Yes.upto y.length (by omega) (fun i z=>Og (y.take i) z) ⟨by simp,by simp,by simp,by simp,by simp⟩ (fun i z k hi hI hk=>?_) (fun z k hI=>?_)
 ·obtain ⟨h1, h2, h3, h4, h5⟩ := hI
  rw [List.length_take] at h3
  have hsh:Ws (w.toNat:Int) (T3 (i:Int))=some ((w.toNat:Int).fdiv (2 ^ (min (i:Int).toNat 64))):=by
   rw [wu_pos (by omega)]; unfold Ws; rw [if_neg (by omega)]
  have hlt:∀ d ∈ y.take i,d.Day < (y[i]).Day:=fun d hd=>by
   obtain ⟨q,hq,rfl⟩:=List.getElem_of_mem hd
   rw [List.length_take] at hq
   rw [List.getElem_take]
   exact hy.lt (by omega) hi
  refine Kj (decide_eq_true (by show (i:Int) < (y.length:Int); omega)) (G3 _ hsh (G3 _ (Yl hi) ?_))
  generalize ((w.toNat:Int).fdiv (2 ^ (min (i:Int).toNat 64)))=n
  rcases and1 n with e | e
  ·refine Kj (by rw [e]; rfl) (Yes.bind (Yes.apnd (by simp; omega) (by simp; omega) (hk _ ?_)))
   rw [List.take_succ_eq_append_getElem hi]
   refine ⟨Lu h1 _,Pp h2 _,by simp; omega,fun c=>?_,fun c hc d hd=>?_⟩
   ·have := h4 c
    simp only [List.mem_append,List.mem_singleton] at this ⊢
    rw [this]
    constructor
    ·rintro ((h | h) | h)
     ·exact .inl h
     ·exact .inr (.inl h)
     ·exact .inr (.inr h)
    ·rintro (h | h | h)
     ·exact .inl (.inl h)
     ·exact .inl (.inr h)
     ·exact .inr h
   ·rcases List.mem_append.1 hd with hd | hd
    ·exact h5 c hc d hd
    ·rw [List.mem_singleton.1 hd]
     have:=hlt c (h2.subset hc)
     omega
  ·refine T8 (by rw [e]; rfl) (Kj (by rw [e]; rfl) (Yes.bind (Yes.apnd (by simp; omega) (by simp; omega) (hk _ ?_))))
   rw [List.take_succ_eq_append_getElem hi]
   refine ⟨Pp h1 _,Lu h2 _,by simp; omega,fun c=>?_,fun c hc d hd=>?_⟩
   ·have := h4 c
    simp only [List.mem_append,List.mem_singleton] at this ⊢
    rw [this]
    constructor
    ·rintro ((h | h) | h)
     ·exact .inl (.inl h)
     ·exact .inr h
     ·exact .inl (.inr h)
    ·rintro ((h | h) | h)
     ·exact .inl (.inl h)
     ·exact .inr h
     ·exact .inl (.inr h)
   ·rcases List.mem_append.1 hc with hc | hc
    ·exact h5 c hc d hd
    ·rw [List.mem_singleton.1 hc]
     have:=hlt d (h1.subset hd)
     omega
 ·refine T8 (decide_eq_false (by show ¬ (y.length : Int) < (y.length : Int); omega)) (Yes.some ?_)
  rw [List.take_length] at hI
  exact hI
theorem Yj.sub {y z:List Z2} (h:Yj y) (hs:z.Sublist y):Yj z:=⟨Nat.le_trans hs.length_le h.1,h.2.1.sublist hs,fun c hc=>h.2.2 c (hs.subset hc)⟩
theorem Yj.lgk {y:List Z2} (h:Yj y):LgK y:=by
 refine ⟨h.1,?_,h.2.2⟩
 refine List.Pairwise.imp_of_mem (fun {a b} ha hb hab=>?_) h.2.1
 have h1:=(h.2.2 a ha).2.1
 have h2:=(h.2.2 b hb).2.1
 unfold Us; omega
def D2 (l:List Z2):List UInt8:=(l.map D8).flatten
theorem s7w {y:List Z2} (hy:Yj y) (w:UInt16):Yes (f7 y w) fun r=>r.2=true∧∃ a b,r.1=[D2 b,D2 a]∧Yj a∧Yj b∧∀ c,c ∈ y ↔ c ∈ b ++ a:=by
 unfold f7
 refine Yes.bind ((s7h hy w).mono fun z hz=>?_)
 obtain ⟨h1,h2,h3,h4,h5⟩:=hz
 have ha:=hy.sub h1
 have hb:=hy.sub h2
 exact G3 _ (s17v ha) (G3 _ (s17v hb) (Yes.some ⟨rfl,z.1,z.2,rfl,ha,hb,h4⟩))
theorem jn3 {a b y:List Z2} (hy:Yj y) (ha:Yj a) (hb:Yj b) (h:∀ c,c ∈ y ↔ c ∈ b ++ a):f19 [D2 b,D2 a,D2 b]=some (y,0,0):=by
 refine s19k (ls:=[b,a,b]) (by simp) (fun l hl=>?_) hy.lgk (fun l hl c hc=>(h c).2 ?_) (fun c hc=>?_)
 ·simp at hl
  rcases hl with rfl | rfl | rfl
  ·exact hb.lgk
  ·exact ha.lgk
  ·exact hb.lgk
 ·simp at hl
  rcases hl with rfl | rfl | rfl
  ·exact List.mem_append_left _ hc
  ·exact List.mem_append_right _ hc
  ·exact List.mem_append_left _ hc
 ·rcases List.mem_append.1 ((h c).1 hc) with hc | hc
  ·exact ⟨b,by simp,hc⟩
  ·exact ⟨a,by simp,hc⟩
end Go.Proofs.YtjjbobaoifflpaaGreatDoor
