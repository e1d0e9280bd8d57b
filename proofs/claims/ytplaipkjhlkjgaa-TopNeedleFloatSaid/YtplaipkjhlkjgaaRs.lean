/- A machine of plain data: what its memory keeps. No program is named here. -/
import Derived.Test.YtplaipkjhlkjgaaRl
namespace Go.Proofs.Ytplaipkjhlkjgaa
noncomputable section
open Go.RowKit
theorem Lf {α:Type} {c:Bool} {a:Option α} {x:α} (h:(bif c then a else none)=some x):a=some x:=by cases c with | true=>exact h | false=>cases h
structure Kp (cx : Cx) (S S' : St) : Prop where
 n:S.n ≤ S'.n
 keep:∀ b,b < cx.cut→b ∉ S'.log→S'.get b=S.get b
 log:∀ b ∈ S.log,b ∈ S'.log
 wr:∀ b ∈ S'.log,b ∈ S.log ∨ (b < cx.cut∧cx.see b=true∧cx.wr b=true)
 bnd:(∀ b,S.get b ≠ none→b < S.n)→∀ b,S'.get b ≠ none→b < S'.n
 dead:∀ b,b < S.n→S.get b=none→S'.get b=none
 live:∀ b ∈ S'.log,b ∈ S.log ∨ S.get b ≠ none
section
variable {P:Program} {tab:Tab} {cx:Cx} {S S' S'':St} {env:Gv}
theorem Kp.refl:Kp cx S S:=⟨Nat.le_refl _,fun _ _ _=>rfl,fun _ h=>h,fun _ h=>.inl h,fun h=>h,fun _ _ h=>h,fun _ h=>.inl h⟩
theorem Kp.trans (h:Kp cx S S') (k:Kp cx S' S''):Kp cx S S'':=⟨Nat.le_trans h.n k.n,fun b hb hn=>(k.keep b hb hn).trans (h.keep b hb fun h1=>hn (k.log b h1)),fun b hb=>k.log b (h.log b hb),fun b hb=>(k.wr b hb).elim (h.wr b) .inr,fun hb=>k.bnd (h.bnd hb),fun b hb h0=>k.dead b (Nat.lt_of_lt_of_le hb h.n) (h.dead b hb h0),fun b hb=>by
 by_cases h1:b ∈ S'.log
 ·exact h.live b h1
 ·rcases k.live b hb with h2 | h2
  ·exact absurd h2 h1
  ·rcases k.wr b hb with h3 | h3
   ·exact absurd h3 h1
   ·right; rw [← h.keep b h3.1 h1]; exact h2⟩
theorem Kp.new (hc:cx.cut ≤ S.n) (B:Blk):Kp cx S (S.new B):=⟨Nat.le_succ _,fun b hb _=>by rw [Hu,if_neg (by omega)],fun _ h=>h,fun _ h=>.inl h,fun hb b hn=>by
 rw [Hu] at hn
 by_cases h:b=S.n
 ·subst h; exact Nat.lt_succ_self _
 ·rw [if_neg h] at hn; exact Nat.lt_succ_of_lt (hb b hn),fun b hb h0=>by rw [Hu,if_neg (by omega)]; exact h0,fun _ h=>.inl h⟩
theorem Kp.put {b:Nat} {B:Option Blk} {B0:Blk} (h:S.put cx b B=some S') (h0:S.look cx b=some B0):Kp cx S S':=by
 obtain ⟨hm,hn,hl,hget⟩:=Dh h
 refine ⟨by omega,fun c hc hnl=>?_,fun c hc=>by rw [hl]; exact Ed hc,fun c hc=>?_,fun hb c hc=>?_,fun c _ h1=>?_,fun c hc=>?_⟩
 ·rw [hget]
  by_cases h1:c=b
  ·subst h1; exact absurd (by rw [hl]; exact Sx hc) hnl
  ·rw [if_neg h1]
 ·rw [hl] at hc
  rcases Pq hc with h1 | ⟨h1,h2⟩
  ·exact .inl h1
  ·right; subst h1
   unfold Cx.mod at hm
   have:Nat.ble cx.cut c=false:=by
    cases h3:Nat.ble cx.cut c
    ·rfl
    ·have:=Nat.le_of_ble_eq_true h3; omega
   rw [this] at hm; simp at hm; exact ⟨h2,hm.1,hm.2⟩
 ·rw [hn]
  refine hb c fun h1=>?_
  rw [hget] at hc
  by_cases h2:c=b
  ·rw [h2,(Re h0).2] at h1; cases h1
  ·rw [if_neg h2] at hc; exact hc h1
 ·rw [hget]
  by_cases h2:c=b
  ·rw [h2,(Re h0).2] at h1; cases h1
  ·rw [if_neg h2]; exact h1
 ·rw [hl] at hc
  rcases Pq hc with h1 | ⟨h1,h2⟩
  ·exact .inl h1
  ·right; rw [h1,(Re h0).2]; simp
theorem aStoreAt_kp {t:TypeId} {b off:Nat} {xs:List C} (h:Si P cx S t b off xs=some S'):Kp cx S S':=by
 unfold Si at h
 split at h
 ·rename_i cs el g n hl hi
  cases hg:(Nat.beq xs.length n && Nat.blt 0 n && Nat.ble (off + n) cs.length) with
  | false=>rw [hg] at h; cases h
  | true=>rw [hg] at h; simp only [cond_true] at h; exact Kp.put h hl
 ·cases h
theorem appTo_kp (hc:cx.cut ≤ S.n) {el:TypeId} {bytes z n:Nat} {l:List C} {a x:AV} (h:appTo cx S el bytes z n l a=some (x,S')):Kp cx S S':=by
 unfold appTo at h
 split at h
 ·cases hg : (Nat.ble (n * bytes) 140737488355328 && Nat.ble n 1099511627776) with
  | false=>rw [hg] at h; cases h
  | true=>rw [hg] at h; simp only [cond_true,Option.some.injEq,Prod.mk.injEq] at h; rw [← h.2]; exact Kp.new hc _
 ·cases hg : (Nat.ble (n * bytes) 140737488355328 && Nat.ble n 1099511627776) with
  | false=>rw [hg] at h; cases h
  | true=>rw [hg] at h; simp only [cond_true,Option.some.injEq,Prod.mk.injEq] at h; rw [← h.2]; exact Kp.new hc _
 ·rename_i b off len cap z2
  split at h
  ·rename_i cs el2 hlook
   split at h
   ·cases hg : (Nat.ble ((len + n) * bytes) 140737488355328 && Nat.ble (len + n) 1099511627776 && Nat.beq z2 z) with
    | false=>rw [hg] at h; cases h
    | true=>
     rw [hg] at h; simp only [cond_true] at h
     split at h
     ·rename_i c
      cases hfit:Nat.ble (len + n) c with
      | true=>
       rw [hfit] at h; simp only [cond_true] at h
       cases hg3:(Nat.beq el2 el && Nat.ble (off + (len + n) * z) cs.length) with
       | false=>rw [hg3] at h; cases h
       | true=>
        rw [hg3] at h; simp only [cond_true,Option.map_eq_some_iff,Prod.mk.injEq] at h
        obtain ⟨S1,hput,_,rfl⟩:=h
        exact Kp.put hput hlook
      | false=>rw [hfit] at h; simp only [cond_false,Option.some.injEq,Prod.mk.injEq] at h; rw [← h.2]; exact Kp.new hc _
     ·cases hg3 : (Nat.beq el2 el) with
      | false=>rw [hg3] at h; cases h
      | true=>
       rw [hg3] at h; simp only [cond_true,Option.map_eq_some_iff,Prod.mk.injEq] at h
       obtain ⟨S1,hput,_,rfl⟩:=h
       have:=(Dh hput).2.1
       exact (Kp.put hput hlook).trans (Kp.new (by omega) _)
   ·cases h
  ·cases h
 ·cases h
theorem aApp_kp (hc:cx.cut ≤ S.n) {t:TypeId} {x y:Operand} {a:AV} (h:aApp P cx S env t x y=some (a,S')):Kp cx S S':=by
 unfold aApp at h
 split at h
 ·split at h
  ·rename_i ti g zc ax ay _ _ _ _
   split at h
   ·rename_i n l _
    cases hg:(Nat.beq zc.length ti.size && Nat.blt 0 ti.size) with
    | false=>rw [hg] at h; cases h
    | true=>
     rw [hg] at h; simp only [cond_true] at h
     cases hn:Nat.beq n 0 with
     | true=>
      rw [hn] at h; simp only [cond_true] at h
      cases hs:isSl ax with
      | false=>rw [hs] at h; cases h
      | true=>rw [hs] at h; simp only [cond_true,Option.some.injEq,Prod.mk.injEq] at h; rw [← h.2]; exact Kp.refl
     | false=>rw [hn] at h; exact appTo_kp hc h
   ·cases h
  ·cases h
 ·cases h
theorem Mn {b:Nat} {es:List (Value × Bool × List C)} (h:Nt cx S b=some es):∃ B,S.look cx b=some B:=by
 unfold Nt at h
 split at h
 ·exact ⟨_,by assumption⟩
 ·exact ⟨_,by assumption⟩
 ·cases h
theorem aCopy_kp {t:TypeId} {x y:Operand} {a:AV} (h:Eo P cx S env t x y=some (a,S')):Kp cx S S':=by
 unfold Eo at h
 split at h
 ·split at h
  ·split at h
   ·rename_i hl
    have h:=Lf h
    simp only [Option.map_eq_some_iff,Prod.mk.injEq] at h
    obtain ⟨S1,hput,_,rfl⟩:=h
    exact Kp.put hput hl
   ·cases h
  ·cases h
 ·cases h
theorem aDelete_kp {t:TypeId} {x y:Operand} (h:Rb P cx S env t x y=some S'):Kp cx S S':=by
 unfold Rb at h
 split at h
 ·split at h
  ·rename_i hm
   obtain ⟨B,hl⟩:=Mn hm
   have h:=Lf h
   split at h
   ·exact Kp.put h hl
   ·exact Kp.put h hl
   ·cases h
  ·cases h
 ·cases h
theorem Ag {t:TypeId} {x y z:Operand} (h:Ur P cx S env t x y z=some S'):Kp cx S S':=by
 unfold Ur at h
 split at h
 ·split at h
  ·rename_i hm
   obtain ⟨B,hl⟩:=Mn hm
   have h:=Lf h
   split at h
   ·split at h
    ·exact Kp.put (Lf h) hl
    ·cases h
   ·exact Kp.put h hl
   ·cases h
  ·cases h
 ·cases h
theorem aMapEntry_kp {t:TypeId} {x y:Operand} {a:AV} (h:Vo P cx S env t x y=some (a,S')):Kp cx S S':=by
 unfold Vo at h
 split at h
 ·split at h
  ·rename_i hl
   have h:=Lf h
   split at h
   ·split at h
    ·have h := Lf h
     simp only [Option.map_eq_some_iff,Prod.mk.injEq] at h
     obtain ⟨S1,hput,_,rfl⟩:=h
     exact Kp.put hput hl
    ·cases h
   ·split at h
    ·simp only [Option.map_eq_some_iff, Prod.mk.injEq] at h
     obtain ⟨S1,hput,_,rfl⟩:=h
     exact Kp.put hput hl
    ·cases h
   ·cases h
  ·cases h
 ·cases h
theorem Nq {x y z:Operand} (h:Yk cx S env x y z=some S'):Kp cx S S':=by
 unfold Yk at h
 split at h
 ·split at h
  ·rename_i hl
   have h:=Lf h
   split at h
   ·exact Kp.put h hl
   ·cases h
  ·cases h
 ·cases h
theorem Oq {t:TypeId} {x y z:Operand} (h:Xp P cx S env t x y z=some S'):Kp cx S S':=by
 unfold Xp at h
 split at h
 ·rename_i kt _ b k g cs _ _ _ _
  split at h
  ·rename_i es hl
   cases hko:Vz P false kt k with
   | false=>rw [hko] at h; cases h
   | true=>
    rw [hko] at h; simp only [cond_true] at h
    split at h
    ·split at h
     ·rename_i p _
      cases hsb:Instr.sameBits 10000 p.1 k with
      | false=>rw [hsb] at h; cases h
      | true=>rw [hsb] at h; exact Kp.put h hl
     ·cases h
    ·exact Kp.put h hl
    ·cases h
  ·cases h
 ·cases h
theorem Nb {r m since : Nat} {seen : List Nat} {es : List (Value × Bool × List C)} {B0 : Blk} (h0 : S.look cx r = some B0) : ∀ {is : List Nat} {l : List (AV × St)}, Dr S cx r m since seen es is = some l → ∀ p ∈ l, Kp cx S p.2
 | [],l,h,p,hp=>by simp only [Dr,Option.some.injEq] at h; subst h; cases hp
 | i :: is,l,h,p,hp=>by
  simp only [Dr] at h
  split at h
  ·rename_i q S1 l' h1 h2 h3
   split at h
   ·simp only [Option.some.injEq] at h; subst h
    rcases List.mem_cons.1 hp with rfl | hp
    ·exact Kp.put h2 h0
    ·exact Nb h0 h3 p hp
   ·cases h
  ·cases h
theorem aNext_kp {x:Operand} {l:List (AV × St)} (h:Iy cx S env x=some l):∀ p ∈ l,Kp cx S p.2:=by
 unfold Iy at h
 split at h
 ·split at h
  ·rename_i hl
   split at h
   ·rename_i m since seen last _ es _
    cases hg:(Nat.beq es.length since && Nat.beq es.length last) with
    | false=>rw [hg] at h; cases h
    | true=>
     rw [hg] at h; simp only [cond_true] at h
     split at h
     ·simp only [Option.some.injEq] at h; subst h; intro p hp; rw [List.mem_singleton.1 hp]; exact Kp.refl
     ·exact Nb (by assumption) h
   ·cases h
  ·simp only [Option.some.injEq] at h; subst h; intro p hp; rw [List.mem_singleton.1 hp]; exact Kp.refl
  ·cases h
 ·cases h
def ArK (cx : Cx) (S : St) : AR → Prop
 | .v _ S'=>Kp cx S S'
 | _=>True
theorem Jm {a:Option AV} {rs:List AR} (h:r1 S a=some rs):∀ r ∈ rs,ArK cx S r:=by
 simp only [r1,Option.map_eq_some_iff] at h
 obtain ⟨x,_,rfl⟩:=h
 intro r hr; rw [List.mem_singleton.1 hr]; exact Kp.refl
theorem Rr {a:Option (AV × St)} {rs:List AR} (h:r2 a=some rs) (k:∀ x S',a=some (x,S')→Kp cx S S'):∀ r ∈ rs,ArK cx S r:=by
 simp only [r2,Option.map_eq_some_iff] at h
 obtain ⟨⟨x,S'⟩,hx,rfl⟩:=h
 intro r hr; rw [List.mem_singleton.1 hr]; exact k x S' hx
theorem r3_kp {a:Option St} {rs:List AR} (h:r3 a=some rs) (k:∀ S',a=some S'→Kp cx S S'):∀ r ∈ rs,ArK cx S r:=by
 simp only [r3,Option.map_eq_some_iff] at h
 obtain ⟨S',hx,rfl⟩:=h
 intro r hr; rw [List.mem_singleton.1 hr]; exact k S' hx
theorem astep_kp (hc:cx.cut ≤ S.n) {o:Oper} {rs:List AR} (h:Ni P tab cx S env o=some rs):∀ r ∈ rs,ArK cx S r:=by
 unfold Ni at h
 split at h
 ·exact Jm h
 ·exact Jm h
 ·exact Jm h
 ·exact Jm h
 ·rename_i first cs _
  cases hf:Nat.beq first.size 0 with
  | false=>rw [hf] at h; cases h
  | true=>rw [hf] at h; exact Jm h
 ·refine Rr h fun x S' hx => ?_
  unfold Nk at hx
  simp only [Option.map_eq_some_iff,Prod.mk.injEq] at hx
  obtain ⟨p,_,_,rfl⟩:=hx
  exact Kp.new hc _
 ·refine Rr h fun x S' hx => ?_
  unfold aBox at hx
  split at hx
  ·simp only [Option.some.injEq,Prod.mk.injEq] at hx; rw [← hx.2]; exact Kp.new hc _
  ·cases hx
 ·exact Jm h
 ·refine r3_kp h fun S' hx => ?_
  unfold Oc at hx
  split at hx
  ·exact aStoreAt_kp hx
  ·cases hx
 ·exact Jm h
 ·exact Jm h
 ·exact Jm h
 ·exact Jm h
 ·exact Jm h
 ·exact Jm h
 ·exact Jm h
 ·refine Rr h fun x S' hx => ?_
  unfold Fb at hx
  split at hx
  ·split at hx
   ·have hx := Lf hx
    split at hx
    ·simp only [Option.some.injEq,Prod.mk.injEq] at hx; rw [← hx.2]; exact Kp.new hc _
    ·cases hx
   ·cases hx
  ·cases hx
 ·refine Rr h fun x S' hx => ?_
  unfold aMake at hx
  split at hx
  ·split at hx
   ·have hx := Lf hx
    simp only [Option.some.injEq,Prod.mk.injEq] at hx; rw [← hx.2]; exact Kp.new hc _
   ·cases hx
  ·cases hx
 ·refine Rr h fun x S' hx => ?_
  unfold Br at hx
  split at hx
  ·simp only [Option.some.injEq,Prod.mk.injEq] at hx; rw [← hx.2]; exact Kp.new hc _
  ·cases hx
 ·exact Jm h
 ·refine r3_kp h fun S' hx => ?_
  rcases Xv hx with hx | hx
  ·exact Oq hx
  ·exact Ag hx
 ·refine r3_kp h fun S' hx => ?_
  rcases Xv hx with hx | hx
  ·exact Oq hx
  ·exact Ag hx
 ·exact Rr h fun x S' hx=>aMapEntry_kp hx
 ·exact r3_kp h fun S' hx=>Nq hx
 ·exact Jm h
 ·exact Jm h
 ·refine Rr h fun x S' hx => ?_
  unfold Ou at hx
  split at hx
  ·split at hx
   ·simp only [Option.some.injEq,Prod.mk.injEq] at hx; rw [← hx.2]; exact Kp.new hc _
   ·cases hx
  ·simp only [Option.some.injEq,Prod.mk.injEq] at hx; rw [← hx.2]; exact Kp.new hc _
  ·cases hx
 ·simp only [Option.map_eq_some_iff] at h
  obtain ⟨l,hl,rfl⟩:=h
  intro r hr
  obtain ⟨p,hp,rfl⟩:=List.mem_map.1 hr
  exact aNext_kp hl p hp
 ·exact Jm h
 ·exact Jm h
 ·unfold El at h
  split at h
  ·split at h
   ·rename_i g caps l _ _
    cases hg:(tab.get g).isSome with
    | false=>rw [hg] at h; cases h
    | true=>rw [hg] at h; simp only [cond_true,Option.some.injEq] at h; subst h; intro r hr; rw [List.mem_singleton.1 hr]; trivial
   ·simp only [Option.some.injEq] at h; subst h; intro r hr; rw [List.mem_singleton.1 hr]; trivial
   ·cases h
  ·split at h
   ·rename_i x y t t' _ _
    cases hb:Nat.beq t t' with
    | true=>rw [hb] at h; exact Rr h fun x S' hx=>aApp_kp hc hx
    | false=>
     rw [hb] at h
     refine Rr h fun x S' hx=>?_
     unfold aAppZ at hx
     split at hx
     ·split at hx
      ·have hx := Lf hx
       simp only [Option.some.injEq,Prod.mk.injEq] at hx; rw [← hx.2]; exact Kp.new hc _
      ·cases hx
     ·cases hx
   ·cases h
  ·split at h
   ·exact Jm h
   ·cases h
  ·split at h
   ·exact Rr h fun x S' hx=>aCopy_kp hx
   ·cases h
  ·split at h
   ·exact r3_kp h fun S' hx=>aDelete_kp hx
   ·cases h
  ·exact Jm h
 ·exact Jm h
 ·exact Jm h
 ·cases h
end
end
end Go.Proofs.Ytplaipkjhlkjgaa
