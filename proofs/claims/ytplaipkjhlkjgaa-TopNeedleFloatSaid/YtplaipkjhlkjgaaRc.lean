/- A machine of plain data: steps on its memory, and its operations. No program is named here. -/
import Derived.Test.YtplaipkjhlkjgaaRa
namespace Go.Proofs.Ytplaipkjhlkjgaa
noncomputable section
open Go.RowKit

def Ua (ρ:Rn) (b:Nat) (x:Nat × Nat):Rn:=fun c=>if c=b then some x else ρ c
theorem Yq {ρ:Rn} {b:Nat} {x:Nat × Nat} (h:ρ b=none):Jf ρ (Ua ρ b x):=fun c y hc=>by
 unfold Ua; rw [if_neg (fun e=>by rw [e,h] at hc; cases hc)]; exact hc
theorem Wf (ρ:Rn) (b:Nat) (x:Nat × Nat):Ua ρ b x b=some x:=by simp [Ua]
theorem Hx (ρ:Rn) {b c:Nat} {x:Nat × Nat} (h:c ≠ b):Ua ρ b x c=ρ c:=by simp [Ua,h]
theorem Ra (w:World) (o:Obj):Gro w (w.alloc o):=⟨rfl,rfl,rfl,by simp,fun x cs el fz h=>⟨cs,(Xz w o (Gg h)).trans h,rfl⟩⟩
theorem Fo (w:World):Gro w w.drew:=⟨rfl,rfl,rfl,Nat.le_refl _,fun _ cs _ _ h=>⟨cs,h,rfl⟩⟩
theorem Mi {w:World} {b:Nat} {cs cur:Array Value} {bt:TypeId} (hh:w.heap[b]?=some (.cells cur bt (0,0))) (hs:cs.size=cur.size):Gro w (w.setRow b cs):=by
 refine ⟨rfl,rfl,rfl,by rw [Kt]; exact Nat.le_refl _,fun x cs' el fz h=>?_⟩
 by_cases hx:x=b
 ·subst hx; rw [hh] at h; injection h with h; injection h with h1 h2 h3; subst h1; subst h2; subst h3
  exact ⟨cs,Tz _ _ hh,hs⟩
 ·exact ⟨cs',(Qz b cs hx).trans h,rfl⟩
theorem Yg (w:World) (r:Nat) (o:Obj):(w.putObj r o).heap.size=w.heap.size:=by simp [World.putObj]
theorem Ff {w:World} {b:Nat} {o o':Obj} (hh:w.heap[b]?=some o') (hc:∀ cs el fz,o' ≠ .cells cs el fz):Gro w (w.putObj b o):=by
 refine ⟨rfl,rfl,rfl,by rw [Yg]; exact Nat.le_refl _,fun x cs' el fz h=>?_⟩
 by_cases hx:x=b
 ·subst hx; rw [hh] at h; injection h with h; exact absurd h (hc _ _ _)
 ·exact ⟨cs',(World.putObj_heap_other hx).trans h,rfl⟩

section
variable {cx:Cx} {base:Nat} {ρ:Rn} {S S':St} {w w':World}
theorem Sim.drew (h:Sim cx base ρ S w):Sim cx base ρ S w.drew:=⟨fun b B hv hb=>let ⟨y,h1,h2⟩:=h.blk b B hv hb; ⟨y,h1,h2.mono (Jf.refl _) (Fo w) rfl⟩,h.inj,h.rng,h.base,h.bnd,h.cut⟩
theorem Ov (_hcut:cx.cut ≤ S.n):Evo cx ρ S w ρ S w.drew:=⟨Nat.le_refl _,fun _ h=>h,fun _ h=>.inl h,fun _ _ _=>rfl,fun _ _ h=>h,Jf.refl _,fun b h k=>absurd h k,Fo w,fun _ _=>.inl rfl,fun b y h k=>by rw [h] at k; cases k⟩
theorem new_ok (hs : Sim cx base ρ S w) (hf : ρ S.n = none) (o : Obj) (B : Blk) (hB : BR (Ua ρ S.n (w.heap.size, 0)) (w.alloc o) B (w.heap.size, 0)) :
  Evo cx ρ S w (Ua ρ S.n (w.heap.size,0)) (S.new B) (w.alloc o)∧Sim cx base (Ua ρ S.n (w.heap.size,0)) (S.new B) (w.alloc o):=by
 have hsz:(w.alloc o).heap.size=w.heap.size + 1:=by simp
 have hcut:=hs.cut
 refine ⟨⟨Nat.le_succ _,fun _ h=>h,fun _ h=>.inl h,fun b hb _=>?_,fun b hb hd=>?_,Yq hf,fun b h1 h2=>?_,Ra w o,fun x hx=>.inl (Xz w o hx),fun b y h1 h2=>?_⟩,⟨fun b B' hv hb=>?_,fun b b' y y' hv hv' hb hb' h1 h2 h3=>?_,fun b y h1=>?_,by have:=hs.base; rw [hsz]; omega,fun b hb=>?_,by show cx.cut ≤ S.n + 1; omega⟩⟩
 ·rw [Hu,if_neg (by omega)]
 ·rw [Hu,if_neg (by omega)]; exact hd
 ·by_cases hbn : b = S.n
  ·subst hbn; exact ⟨Nat.le_refl _,Nat.lt_succ_self _⟩
  ·rw [Hx _ hbn] at h2; exact absurd h1 h2
 ·by_cases hbn : b = S.n
  ·subst hbn; rw [Wf] at h2; injection h2 with h2; subst h2; exact .inl (Nat.le_refl _)
  ·rw [Hx _ hbn,h1] at h2; cases h2
 ·rw [Hu] at hb
  by_cases hbn:b=S.n
  ·subst hbn; rw [if_pos rfl] at hb; injection hb with hb; subst hb; exact ⟨_,Wf _ _ _,hB⟩
  ·rw [if_neg hbn] at hb
   obtain ⟨y,h1,h2⟩:=hs.blk b B' hv hb
   exact ⟨y,by rw [Hx _ hbn]; exact h1,h2.mono (Yq hf) (Ra w o) (Xz w o h2.lt)⟩
 ·rw [Hu] at hb hb'
  by_cases hbn:b=S.n <;> by_cases hbn':b'=S.n
  ·rw [hbn,hbn']
  ·subst hbn
   rw [Wf] at h1; injection h1 with h1; subst h1
   rw [Hx _ hbn'] at h2
   have:=(hs.rng b' y' h2).2; simp only at h3; omega
  ·subst hbn'
   rw [Wf] at h2; injection h2 with h2; subst h2
   rw [Hx _ hbn] at h1
   have:=(hs.rng b y h1).2; simp only at h3; omega
  ·rw [Hx _ hbn] at h1; rw [Hx _ hbn'] at h2
   rw [if_neg hbn] at hb; rw [if_neg hbn'] at hb'
   exact hs.inj b b' y y' hv hv' hb hb' h1 h2 h3
 ·by_cases hbn : b = S.n
  ·subst hbn; rw [Wf] at h1; injection h1 with h1; subst h1; have:=hs.base; rw [hsz]; simp only; omega
  ·rw [Hx _ hbn] at h1; have:=hs.rng b y h1; rw [hsz]; omega
 ·rw [Hu] at hb
  by_cases hbn:b=S.n
  ·subst hbn; exact Nat.lt_succ_self _
  ·rw [if_neg hbn] at hb; exact Nat.lt_succ_of_lt (hs.bnd b hb)
theorem Dh {b:Nat} {B:Option Blk} (h:S.put cx b B=some S'):cx.mod b=true∧S'.n=S.n∧S'.log=S.wrote cx b∧∀ c,S'.get c=if c=b then B else S.get c:=by
 unfold St.put at h
 cases hm:cx.mod b with
 | false=>rw [hm] at h; cases h
 | true=>rw [hm] at h; simp only [cond_true,Option.some.injEq] at h; subst h; exact ⟨rfl,rfl,rfl,fun c=>Mp.get_set _ _ _ _⟩
theorem Pq {b c:Nat}:c ∈ S.wrote cx b→c ∈ S.log ∨ c=b∧b < cx.cut:=by
 unfold St.wrote
 cases h:(Nat.blt b cx.cut && !(S.log.contains b)) with
 | false=>exact .inl
 | true=>
  simp only [Bool.and_eq_true] at h
  intro hc
  rcases List.mem_cons.1 hc with h1 | h1
  ·exact .inr ⟨h1,Nat.le_of_ble_eq_true h.1⟩
  ·exact .inl h1
theorem Sx {b:Nat} (h:b < cx.cut):b ∈ S.wrote cx b:=by
 unfold St.wrote
 have h1:Nat.blt b cx.cut=true:=Nat.ble_eq_true_of_le h
 cases h2:S.log.contains b with
 | false=>simp [h1]
 | true=>simp [h1]; simpa using h2
theorem Ed {b c:Nat} (h:c ∈ S.log):c ∈ S.wrote cx b:=by
 unfold St.wrote
 cases (Nat.blt b cx.cut && !(S.log.contains b)) <;> simp [h]
theorem Xw (hs : Sim cx base ρ S w) {b : Nat} {y : Nat × Nat} {B0 : Blk} {B : Option Blk} (hb : S.get b = some B0) (hy : ρ b = some y) (hg : Gro w w') (hsz : w'.heap.size = w.heap.size) (ho : ∀ x, x ≠ y.1 → w'.heap[x]? = w.heap[x]?)
  (hB:∀ B1,B=some B1→BR ρ w' B1 y) (hS:S.put cx b B=some S'):Evo cx ρ S w ρ S' w'∧Sim cx base ρ S' w':=by
 have hbn:b < S.n:=hs.bnd b (by rw [hb]; simp)
 obtain ⟨hm,hn,hl,hget⟩:=Dh hS
 have hvb:=Cx.mod_vis hm
 have hcut:=hs.cut
 have live:∀ c,S'.get c ≠ none→S.get c ≠ none:=fun c hc=>by
  rw [hget] at hc
  by_cases h1:c=b
  ·rw [h1,hb]; simp
  ·rw [if_neg h1] at hc; exact hc
 refine ⟨⟨by omega,fun c hc=>by rw [hl]; exact Ed hc,fun c hc=>?_,fun c hc hnl=>?_,fun c hc hd=>?_,Jf.refl _,fun b h k=>absurd h k,hg,fun x hx=>?_,fun b y h k=>by rw [h] at k; cases k⟩,
  ⟨fun c B' hv hc=>?_,fun c c' z z' hv hv' hc hc' h1 h2 h3=>hs.inj c c' z z' hv hv' (live c hc) (live c' hc') h1 h2 h3,fun c z h1=>by rw [hsz]; exact hs.rng c z h1,by rw [hsz]; exact hs.base,fun c hc=>by rw [hn]; exact hs.bnd c (live c hc),by omega⟩⟩
 ·rw [hl] at hc
  rcases Pq hc with h1 | ⟨h1,h2⟩
  ·exact .inl h1
  ·right; subst h1
   unfold Cx.mod at hm
   have:Nat.ble cx.cut c=false:=by
    cases h3:Nat.ble cx.cut c
    ·rfl
    ·have:=Nat.le_of_ble_eq_true h3; omega
   rw [this] at hm; simp at hm; exact ⟨h2,hm.1,hm.2⟩
 ·rw [hget]
  by_cases h1:c=b
  ·subst h1; exact absurd (by rw [hl]; exact Sx hc) hnl
  ·rw [if_neg h1]
 ·rw [hget]
  by_cases h1:c=b
  ·subst h1; rw [hb] at hd; cases hd
  ·rw [if_neg h1]; exact hd
 ·by_cases h1 : x = y.1
  ·refine .inr ⟨b, y, hy, h1.symm, ?_⟩
   rcases Nat.lt_or_ge b cx.cut with h2 | h2
   ·exact .inl ⟨by rw [hl]; exact Sx h2,h2⟩
   ·exact .inr ⟨h2,by omega⟩
  ·exact .inl (ho x h1)
 ·rw [hget] at hc
  by_cases h1:c=b
  ·subst h1; rw [if_pos rfl] at hc; exact ⟨y,hy,hB B' hc⟩
  ·rw [if_neg h1] at hc
   obtain ⟨z,h2,h3⟩:=hs.blk c B' hv hc
   refine ⟨z,h2,h3.mono (Jf.refl _) hg (ho z.1 fun h4=>?_)⟩
   exact h1 (hs.inj c b z y hv hvb (by rw [hc]; simp) (by rw [hb]; simp) h2 hy h4)
theorem take_ok (hs : Sim cx base ρ S w) {b sh : Nat} {y : Nat × Nat} {B0 B : Blk} (hb : S.get b = some B0) (hy : ρ b = some y) (hg : Gro w w') (hsz : w'.heap.size = w.heap.size) (ho : ∀ x, x ≠ y.1 → w'.heap[x]? = w.heap[x]?)
  (hf:ρ S.n=none) (hB:BR (Ua ρ S.n (y.1,sh)) w' B (y.1,sh)) (hS:S.put cx b none=some S'):Evo cx ρ S w (Ua ρ S.n (y.1,sh)) (S'.new B) w'∧Sim cx base (Ua ρ S.n (y.1,sh)) (S'.new B) w':=by
 have hbn:b < S.n:=hs.bnd b (by rw [hb]; simp)
 obtain ⟨ev,sm⟩:=Xw hs hb hy hg hsz ho (B:=none) (fun _ h=>by cases h) hS
 obtain ⟨hm,hn,hl,hget⟩:=Dh hS
 have hvb:=Cx.mod_vis hm
 have hcut:=hs.cut
 refine ⟨⟨by show S.n ≤ S'.n + 1; omega,ev.log,ev.wr,fun c hc hnl=>?_,fun c hc hd=>?_,Yq hf,fun c h1 h2=>?_,hg,fun x hx=>?_,fun c z h1 h2=>?_⟩,
  ⟨fun c B' hv hc=>?_,fun c c' z z' hv hv' hc hc' h1 h2 h3=>?_,fun c z h1=>?_,sm.base,fun c hc=>?_,by show cx.cut ≤ S'.n + 1; omega⟩⟩
 ·rw [Hu,if_neg (by omega)]; exact ev.keep c hc hnl
 ·rw [Hu,if_neg (by omega)]; exact ev.dead c hc hd
 ·by_cases hbn : c = S.n
  ·subst hbn; exact ⟨Nat.le_refl _,by show S.n < S'.n + 1; omega⟩
  ·rw [Hx _ hbn] at h2; exact absurd h1 h2
 ·rcases ev.frame x hx with h1 | ⟨c, z, h1, h2, h3⟩
  ·exact .inl h1
  ·exact .inr ⟨c,z,Yq hf _ _ h1,h2,h3.imp (fun h=>h) (fun h=>⟨h.1,by show c < S'.n + 1; omega⟩)⟩
 ·by_cases hbn' : c = S.n
  ·subst hbn'
   rw [Wf] at h2; injection h2 with h2; subst h2
   refine .inr ⟨b,y,hy,rfl,?_,?_⟩
   ·rw [Hu,if_neg (by omega),hget,if_pos rfl]
   ·rcases Nat.lt_or_ge b cx.cut with h2 | h2
    ·exact .inl ⟨by show b ∈ S'.log; rw [hl]; exact Sx h2,h2⟩
    ·exact .inr ⟨h2,hbn⟩
  ·rw [Hx _ hbn',h1] at h2; cases h2
 ·rw [Hu] at hc
  by_cases hbn:c=S'.n
  ·rw [if_pos hbn] at hc; injection hc with hc; subst hc
   exact ⟨(y.1,sh),by rw [hbn,hn]; exact Wf _ _ _,hB⟩
  ·rw [if_neg hbn] at hc
   obtain ⟨z,h1,h2⟩:=sm.blk c B' hv hc
   exact ⟨z,Yq hf _ _ h1,h2.mono (Yq hf) (Gro.refl _) rfl⟩
 ·rw [Hu] at hc hc'
  have other:∀ d z,cx.vis d=true→d ≠ S'.n→S'.get d ≠ none→Ua ρ S.n (y.1,sh) d=some z→z.1 ≠ y.1:=fun d z hv hd hl h1 h2=>by
   rw [Hx _ (by omega)] at h1
   have hdb:d ≠ b:=fun e=>by rw [e,hget,if_pos rfl] at hl; exact hl rfl
   rw [hget,if_neg hdb] at hl
   exact hdb (hs.inj d b z y hv hvb hl (by rw [hb]; simp) h1 hy h2)
  by_cases hbn:c=S'.n <;> by_cases hbn':c'=S'.n
  ·rw [hbn,hbn']
  ·rw [if_neg hbn'] at hc'
   rw [hbn,hn,Wf] at h1; injection h1 with h1
   subst h1; exact absurd h3.symm (other c' z' hv' hbn' hc' h2)
  ·rw [if_neg hbn] at hc
   rw [hbn',hn,Wf] at h2; injection h2 with h2
   subst h2; exact absurd h3 (other c z hv hbn hc h1)
  ·rw [if_neg hbn] at hc; rw [if_neg hbn'] at hc'
   rw [Hx _ (by omega)] at h1 h2
   exact sm.inj c c' z z' hv hv' hc hc' h1 h2 h3
 ·by_cases hbn : c = S.n
  ·subst hbn; rw [Wf] at h1; injection h1 with h1; subst h1; exact sm.rng b y hy
  ·rw [Hx _ hbn] at h1; exact sm.rng c z h1
 ·rw [Hu] at hc
  by_cases hbn:c=S'.n
  ·subst hbn; exact Nat.lt_succ_self _
  ·rw [if_neg hbn] at hc; exact Nat.lt_succ_of_lt (sm.bnd c hc)
end
end
end Go.Proofs.Ytplaipkjhlkjgaa
/- A machine of plain data: its operations, and that the model does the same. No program is named here. -/
namespace Go.Proofs.Ytplaipkjhlkjgaa
noncomputable section
open Go.RowKit

/-! ### What only computes -/
def Yj (P : Program) {α : Type} : Sem α → Option α
 | .pure a=>some a
 | .program k=>Yj P (k P)
 | _=>none
theorem Ph {P:Program} {α:Type}:∀ {s:Sem α} {a:α},Yj P s=some a→∀ w,s.run P w=.ok a w:=by
 intro s
 induction s with
 | pure x=>intro a h w; simp only [Yj,Option.some.injEq] at h; subst h; rfl
 | program k ih=>intro a h w; exact ih P h w
 | _=>intro a h w; simp [Yj] at h
def Jy : List C → Option (List Value)
 | []=>some []
 | .k v :: cs=>(Jy cs).map (v :: ·)
 | _=>none
def Pj : AV → Option Value
 | .v g cs=>(Jy cs).map (toV g)
 | .u=>some undef
 | .t _=>none
def of1 (v:Value):Option (Bool × List C):=
 match v with
 | .agg cs=>bif cs.toList.all Value.oneCell' then some (true,cs.toList.map .k) else none
 | v=>bif v.oneCell' then some (false,[.k v]) else none
def of1s : List Value → Option (List (Bool × List C))
 | []=>some []
 | v :: vs => match of1 v, of1s vs with
  | some p,some ps=>some (p :: ps)
  | _,_=>none
def ofV (v:Value):Option AV:=
 match v with
 | .tuple vs=>bif Nat.beq vs.size 0 then some .u else (of1s vs.toList).map .t
 | v=>(of1 v).map fun p=>.v p.1 p.2
section
variable {cx:Cx} {base:Nat} {ρ:Rn} {S S':St} {w w':World}
theorem Ol : ∀ {cs : List C} {vs us : List Value}, Jy cs = some vs → CsR ρ w cs us → us = vs
 | [],vs,us,h,hr=>by simp only [Jy,Option.some.injEq] at h; subst h; cases hr; rfl
 | .k v :: cs,vs,us,h,hr=>by
  cases hr with
  | cons h1 h2=>
   simp only [Jy,Option.map_eq_some_iff] at h
   obtain ⟨vs',h3,rfl⟩:=h
   rw [Ol h3 h2,h1.1]
 | .p _ _ :: _,_,_,h,_=>by simp [Jy] at h
 | .s _ _ _ _ _ :: _,_,_,h,_=>by simp [Jy] at h
 | .e _ :: _,_,_,h,_=>by simp [Jy] at h
 | .m _ :: _,_,_,h,_=>by simp [Jy] at h
 | .f _ _ :: _,_,_,h,_=>by simp [Jy] at h
 | .y _ :: _,_,_,h,_=>by simp [Jy] at h
theorem constA_ok {a:AV} {u v:Value} (h:Pj a=some u) (hr:VR ρ w a v):v=u:=by
 cases a with
 | v g cs=>
  simp only [Pj,Option.map_eq_some_iff] at h
  obtain ⟨vs,h1,rfl⟩:=h
  obtain ⟨us,rfl,h2,_⟩:=hr
  rw [Ol h1 h2]
 | u=>simp only [Pj,Option.some.injEq] at h; subst h; exact hr
 | t xs=>simp [Pj] at h
theorem kR : ∀ {cs : List Value}, cs.all Value.oneCell' = true → CsR ρ w (cs.map .k) cs
 | [],_=>.nil
 | v :: cs,h=>by simp only [List.all_cons,Bool.and_eq_true] at h; exact .cons ⟨rfl,h.1⟩ (kR h.2)
theorem Lx {v:Value} {p:Bool × List C} (h:of1 v=some p):V1 ρ w p v:=by
 unfold of1 at h
 split at h
 ·rename_i cs
  cases ha:cs.toList.all Value.oneCell' with
  | false=>rw [ha] at h; cases h
  | true=>
   rw [ha] at h; simp only [cond_true,Option.some.injEq] at h; subst h
   exact ⟨cs.toList,by simp [toV],kR ha,fun h=>by cases h⟩
 ·cases ha : v.oneCell' with
  | false=>rw [ha] at h; cases h
  | true=>
   rw [ha] at h; simp only [cond_true,Option.some.injEq] at h; subst h
   exact V1.of ⟨rfl,ha⟩
theorem of1s_ok : ∀ {vs : List Value} {ps : List (Bool × List C)}, of1s vs = some ps → All2 (V1 ρ w) ps vs
 | [],ps,h=>by simp only [of1s,Option.some.injEq] at h; subst h; exact .nil
 | v :: vs,ps,h=>by
  unfold of1s at h
  split at h
  ·rename_i p ps' h1 h2; simp only [Option.some.injEq] at h; subst h; exact .cons (Lx h1) (of1s_ok h2)
  ·cases h
theorem ofV_ok {v:Value} {a:AV} (h:ofV v=some a):VR ρ w a v:=by
 unfold ofV at h
 split at h
 ·rename_i vs
  cases hs:Nat.beq vs.size 0 with
  | true=>
   rw [hs] at h; simp only [cond_true,Option.some.injEq] at h; subst h
   have:vs=#[]:=Array.eq_empty_of_size_eq_zero (Nat.eq_of_beq_eq_true hs)
   show Value.tuple vs=undef; rw [this]; rfl
  | false=>
   rw [hs] at h; simp only [cond_false,Option.map_eq_some_iff] at h
   obtain ⟨ps,h1,rfl⟩:=h
   exact ⟨vs.toList,by simp,of1s_ok h1⟩
 ·simp only [Option.map_eq_some_iff] at h
  obtain ⟨p,h1,rfl⟩:=h
  exact Lx h1
end
def aop (env : Gv) : Operand → Option AV
 | .tmp t=>some (env.at t)
 | .const v=>ofV v
 | .func f=>some (.v false [.f f []])
 | .global _=>none
def Ub (env : Gv) : Operand → Option Value
 | .tmp t=>Pj (env.at t)
 | .const v=>some v
 | _=>none
def Hb (ρ:Rn) (w:World) (env:Gv) (e:Env) (xs:List Operand):Prop:=∀ t,.tmp t ∈ xs→VR ρ w (env.at t) (e t)
section
variable {cx:Cx} {base:Nat} {ρ:Rn} {S S':St} {w w':World} {env:Gv} {e:Env} {xs:List Operand} {P:Program}
theorem Qa {x:Operand} {a:AV} (h:aop env x=some a) (ho:Hb ρ w env e xs) (hx:x ∈ xs):VR ρ w a (ev e x):=by
 cases x with
 | tmp t=>simp only [aop,Option.some.injEq] at h; subst h; exact ho t hx
 | const v=>exact ofV_ok h
 | func f=>simp only [aop,Option.some.injEq] at h; subst h; exact V1.of ⟨[],rfl,.nil⟩
 | global g=>cases h
theorem Kf {x:Operand} {v:Value} (h:Ub env x=some v) (ho:Hb ρ w env e xs) (hx:x ∈ xs):ev e x=v:=by
 cases x with
 | tmp t=>exact constA_ok h (ho t hx)
 | const u=>simp only [Ub,Option.some.injEq] at h; exact h
 | func f=>cases h
 | global g=>cases h
def Hi (cx:Cx) (base:Nat) (ρ:Rn) (S:St) (w:World) (x:AV) (S':St) (r:Result Next):Prop:=
 ∃ v w' ρ',(r=.ok (.value v) w' ∨ r=.ok .skip w'∧v=undef)∧Evo cx ρ S w ρ' S' w'∧Sim cx base ρ' S' w'∧VR ρ' w' x v
theorem Ti (hs:Sim cx base ρ S w) {x:AV} {v:Value} {r:Result Next} (hr:r=.ok (.value v) w) (hv:VR ρ w x v):Hi cx base ρ S w x S r:=
 ⟨v,w,ρ,.inl hr,Evo.refl hs.cut,hs,hv⟩
def Hf (P:Program) (env:Gv) (o:Oper):Option AV:=
 bif o.op.operands.toList.all (fun x => (Ub env x).isSome) && !Kb o then
  match Yj P (execOp (fun x=>(Ub env x).getD undef) o) with
  | some (.value v)=>ofV v
  | _=>none
 else none
theorem Jj (hs:Sim cx base ρ S w) {o:Oper} {x:AV} (ho:Hb ρ w env e o.op.operands.toList) (h:Hf P env o=some x):Hi cx base ρ S w x S ((execOp (ev e) o).run P w):=by
 unfold Hf at h
 cases hc:(o.op.operands.toList.all (fun x=>(Ub env x).isSome) && !Kb o) with
 | false=>rw [hc] at h; cases h
 | true=>
  rw [hc] at h; simp only [cond_true] at h
  simp only [Bool.and_eq_true,List.all_eq_true,Bool.not_eq_true'] at hc
  split at h
  ·rename_i v hv
   have hcg:execOp (ev e) o=execOp (fun x=>(Ub env x).getD undef) o:=execOp_congr o (fun cs b h=>by have:=hc.2; simp [Kb,h] at this) fun x hx=>by
    have h1:=hc.1 x (by simpa using hx)
    cases h2:Ub env x with
    | none=>rw [h2] at h1; cases h1
    | some u=>rw [Kf h2 ho (by simpa using hx)]; rfl
   rw [hcg]
   exact Ti hs (Ph hv w) (ofV_ok h)
  ·cases h

/-! ### Types -/
def aggD : TypeDesc → Bool
 | .struct _ | .array _ _=>true
 | _=>false
def Mt (P:Program) (t:TypeId):Option (Bool × Nat):=
 match P.underlying t,P.info? t with
 | some u,some i=>some (aggD u,i.size)
 | _,_=>none
theorem Cy {t:TypeId} {g:Bool} {n:Nat} (h:Mt P t=some (g,n)):(∀ w,(isAgg t).run P w=.ok g w)∧(∀ w,(sizeOf t).run P w=.ok n w):=by
 unfold Mt at h
 split at h
 ·rename_i u i hu hi
  simp only [Option.some.injEq,Prod.mk.injEq] at h
  obtain ⟨rfl,rfl⟩:=h
  constructor
  ·intro w
   unfold isAgg
   simp only [Sem.run_bind,run_underlying hu,Result.andThen_ok]
   cases u <;> rfl
  ·intro w
   simp [sizeOf,typeInfo,hi]
 ·cases h
def De (P:Program) (t:TypeId):Option (Bool × List C):=((P.info? t).bind (·.zero)).bind of1
theorem Sp {t:TypeId} {p:Bool × List C} (h:De P t=some p):∃ z,(∀ w,(zeroValue t).run P w=.ok z w)∧∀ (ρ:Rn) (w:World),V1 ρ w p z:=by
 unfold De at h
 cases hi:P.info? t with
 | none=>rw [hi] at h; cases h
 | some i=>
  rw [hi] at h
  simp only [Option.bind_some] at h
  cases hz:i.zero with
  | none=>rw [hz] at h; cases h
  | some z=>
   rw [hz] at h
   exact ⟨z,fun w=>by simp [zeroValue,typeInfo,hi,hz],fun ρ w=>Lx h⟩

/-! ### Values -/
def aMove (env:Gv) (x:Operand):Option AV:=aop env x
theorem aMove_ok (hs:Sim cx base ρ S w) {o:Oper} {x:Operand} {a:AV} (hop:o.op=.move x ∨ o.op=.assign x) (ho:Hb ρ w env e o.op.operands.toList) (h:aMove env x=some a):Hi cx base ρ S w a S ((execOp (ev e) o).run P w):=by
 refine Ti (v:=ev e x) hs ?_ (Qa h ho ?_)
 ·rcases hop with hop | hop <;> simp [execOp,hop]
 ·rcases hop with hop | hop <;> simp [hop,Op.operands]
def aPick (env:Gv) (c x y:Operand):Option AV:=
 match Ub env c with
 | some (.bool b)=>aop env (bif b then x else y)
 | _=>none
theorem aPick_ok (hs:Sim cx base ρ S w) {o:Oper} {c x y:Operand} {a:AV} (hop:o.op=.pick c x y) (ho:Hb ρ w env e o.op.operands.toList) (h:aPick env c x y=some a):Hi cx base ρ S w a S ((execOp (ev e) o).run P w):=by
 unfold aPick at h
 split at h
 ·rename_i b hb
  have hc:=Kf hb ho (by simp [hop,Op.operands])
  cases b with
  | true=>exact Ti (v:=ev e x) hs (by simp [execOp,hop,hc,asBool]) (Qa h ho (by simp [hop,Op.operands]))
  | false=>exact Ti (v:=ev e y) hs (by simp [execOp,hop,hc,asBool]) (Qa h ho (by simp [hop,Op.operands]))
 ·cases h
def Cm (env:Gv) (x:Operand) (i:Nat):Option AV:=
 match aop env x with
 | some (.t xs)=>(xs[i]?).map fun p=>.v p.1 p.2
 | _=>none
theorem aExtract_ok (hs:Sim cx base ρ S w) {o:Oper} {x:Operand} {i:Nat} {a:AV} (hop:o.op=.extract x i) (ho:Hb ρ w env e o.op.operands.toList) (h:Cm env x i=some a):Hi cx base ρ S w a S ((execOp (ev e) o).run P w):=by
 unfold Cm at h
 split at h
 ·rename_i xs hx
  simp only [Option.map_eq_some_iff] at h
  obtain ⟨p,hp,rfl⟩:=h
  obtain ⟨vs,hv,h2⟩:=Qa hx ho (by simp [hop,Op.operands])
  obtain ⟨v,hv2,h3⟩:=h2.get hp
  refine Ti (v:=v) hs ?_ h3
  simp [execOp,hop,hv,Instr.extract,hv2]
 ·cases h
def Nm (env : Gv) : List Operand → Option (List (Nat × Nat))
 | []=>some []
 | x :: xs => match aop env x, Nm env xs with
  | some (.v false [.p b off]),some l=>some ((b,off) :: l)
  | _,_=>none
theorem aFunc_ok (ho : Hb ρ w env e xs) : ∀ {ys : List Operand} {l : List (Nat × Nat)}, (∀ y ∈ ys, y ∈ xs) → Nm env ys = some l → All2 (PR ρ) l (ys.map (ev e))
 | [],l,_,h=>by simp only [Nm,Option.some.injEq] at h; subst h; exact .nil
 | y :: ys,l,hm,h=>by
  unfold Nm at h
  split at h
  ·rename_i b off l' h1 h2
   simp only [Option.some.injEq] at h; subst h
   exact .cons (V1.one (Qa h1 ho (hm y (by simp)))) (aFunc_ok ho (fun z hz=>hm z (by simp [hz])) h2)
  ·cases h
theorem aMakeFunc_ok (hs : Sim cx base ρ S w) {o : Oper} {fn : FuncId} {cs : Array Operand} {l : List (Nat × Nat)} (hop : o.op = .makeFunc (.func fn) #[] cs) (ho : Hb ρ w env e o.op.operands.toList) (h : Nm env cs.toList = some l) :
  Hi cx base ρ S w (.v false [.f fn l]) S ((execOp (ev e) o).run P w):=by
 refine Ti (v:=.func (.func fn) #[] (cs.map (ev e))) hs (by simp [execOp,hop,Instr.makeFunc]) (V1.of ⟨(cs.map (ev e)).toList,by rw [Array.toArray_toList],?_⟩)
 rw [Array.toList_map]
 exact aFunc_ok ho (fun y hy=>by simp [hop,Op.operands]; simpa using hy) h
end
end
end Go.Proofs.Ytplaipkjhlkjgaa
