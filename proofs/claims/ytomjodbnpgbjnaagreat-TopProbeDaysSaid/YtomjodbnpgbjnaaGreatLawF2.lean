/- Laws of plain functions, part 2. -/
import Derived.Test.YtomjodbnpgbjnaaGreatLawF1
set_option maxRecDepth 8000
namespace Go.Proofs.YtomjodbnpgbjnaaGreat
open Go.RowKit
open Classical
theorem dec_lineF {m:Nat} {c:Nat→Bool} {j:Nat} (h:j < m):(dec (lineF m c) j).2=1:=by
 have hl:j < (lineF m c).b.length:=by rw [line_lenF]; exact h
 have hg:(ByteArray.mk (Array.mk (lineF m c).b)).get! (j + 0)=markF (c j):=by
  show (Array.mk (lineF m c).b)[j]! = _
  rw [getElem!_pos _ j (by simpa using hl)]
  exact line_atF hl
 unfold dec Utf8.decode
 simp only [hg]
 have hb:(markF (c j)).toNat < 128:=mark_ltF (c j)
 rw [if_pos hb]
theorem s83F {n m : Nat} (hn : n ≤ 100000) (hm : m ≤ 100000) (c c' : Nat → Nat → Bool) {σ : Type} {cons : Cons σ (Int × Int)} {s t : σ} (h : feedF cons (plF n m fun p w => c p w != c' p w) s = some t) :
    f48 (clothOfF n m c) (clothOfF n m c') σ cons s=some t:=by
  refine Yes.eq ?_
  unfold f48
  rw [cloth_lenF]
  refine Yes.upto n (by omega) (fun i s=>feedF cons (plFromF (fun p w=>c p w != c' p w) n m (n - i)) s=some t) h (fun i s k hi hI hk'=>?_) (fun s k hI=>?_)
  · refine Yes.cond (fun _ => Yes.jn (Yes.bind (Yes.idx rfl (by rw [cloth_lenF]; exact hi) ?_))) (fun h => absurd h (by simp; omega))
    rw [plFrom_stepF hi] at hI
    rw [cloth_atF]
    refine Yes.lp (fun q=>q.2 ≤ m∧feedF cons (rowFromF (fun w=>c i w != c' i w) i m (m - q.2) ++ plFromF (fun p w=>c p w != c' p w) n m (n - (i + 1))) q.1=some t) (fun q=>m - q.2) ⟨Nat.zero_le _,hI⟩ (by simp only; omega) ?_
    rintro ⟨s,j⟩ k2 ⟨hj,hJ⟩ hk2
    simp only at hj hJ hk2
    rw [line_lenF]
    refine Yes.cond (fun hlt=>Yes.bind (Yes.bind ?_)) (fun hge=>?_)
    · have hlt : j < m := by simpa using hlt
      rw [rowFrom_stepF hlt] at hJ
      have hw:j + (dec (lineF m (c i)) j).2=j + 1:=by rw [dec_lineF hlt]
      refine Yes.idx rfl (by rw [line_lenF]; exact hlt) (Yes.bind (Yes.idx rfl (by rw [cloth_lenF]; exact hi) ?_))
      rw [cloth_atF]
      refine Yes.bind (Yes.idx rfl (by rw [line_lenF]; exact hlt) ?_)
      rw [line_atF,line_atF,mark_neF]
      refine Yes.cond (fun hd=>?_) (fun hd=>Yes.some (Yes.cond (fun h=>nomatch h) (fun _=>?_)))
      · rw [hd] at hJ
        simp only [if_true,List.cons_append,List.nil_append,feedF] at hJ
        obtain ⟨⟨b,s'⟩,hc,hr⟩:=bsome hJ
        refine Yes.bind (Yes.of hc (Yes.some (Yes.cond (fun h=>?_) (fun h=>?_))))
        · have hb : b = false := by simpa using h
          subst hb
          simp only [cond_false] at hr
          exact Yes.some (Option.some.inj hr)
        · have hb : b = true := by simpa using h
          subst hb
          simp only [cond_true] at hr
          rw [hw]
          exact hk2 (s',j + 1) ⟨hlt,hr⟩ (by simp only; omega)
      · rw [hd] at hJ
        rw [hw]
        exact hk2 (s,j + 1) ⟨hlt,by simpa using hJ⟩ (by simp only; omega)
    · have : j = m := by have : ¬ j < m := by simpa using hge
                         omega
      subst this
      rw [Nat.sub_self] at hJ
      exact hk' s (by simpa [rowFromF] using hJ)
  · rw [Nat.sub_self] at hI
    exact Yes.cond (fun h=>absurd h (by simp)) (fun _=>Yes.some (Option.some.inj hI))
theorem s55_oneF {l:FaultLoom} (g:GoodF l) {d:FaultDamage} (hd:dmgF l d=true):f47 ⟨l⟩ [d]=some (rndF l [d]):=
 s55F g (s78_oneF d) (by simp) (by simp) (fun x hx=>by rw [List.mem_singleton.1 hx]; exact hd)
def rcF (l:FaultLoom) (ds:List FaultDamage) (p w:Nat):Bool:=(afterF l ds).1 p (hkF l w) && !(afterF l ds).2 w
theorem rnd_isF (l:FaultLoom) (ds:List FaultDamage):rndF l ds=clothOfF l.Design.Rows.length l.Harness.Warps.length (rcF l ds):=rfl
def aplF (l:FaultLoom) (a b:List FaultDamage):List (Int × Int):=plF l.Design.Rows.length l.Harness.Warps.length fun p w=>rcF l a p w != rcF l b p w
def fpF (ps : List (Int × Int)) : Int := match ps with
 | []=>0
 | (p,_) :: _=>p + 1
theorem rowFrom_fstF {d : Nat → Bool} {i m : Nat} : ∀ {k : Nat} {q : Int × Int}, q ∈ rowFromF d i m k → q.1 = (i : Int)
 | 0,_,h=>by cases h
 | k + 1,q,h=>by
  unfold rowFromF at h
  rcases List.mem_append.1 h with h | h
  ·split at h
   ·rw [List.mem_singleton.1 h]
   ·cases h
  ·exact rowFrom_fstF h
theorem plFrom_memF {d : Nat → Nat → Bool} {n m : Nat} : ∀ {k : Nat}, k ≤ n → ∀ {q : Int × Int}, q ∈ plFromF d n m k → 0 ≤ q.1 ∧ q.1 < n
 | 0,_,_,h=>by cases h
 | k + 1,hkF,q,h=>by
  unfold plFromF at h
  rcases List.mem_append.1 h with h | h
  ·rw [rowFrom_fstF h]; omega
  ·exact plFrom_memF (by omega) h
theorem fp_rangeF (n m:Nat) (d:Nat→Nat→Bool):0 ≤ fpF (plF n m d)∧fpF (plF n m d) ≤ n:=by
 unfold fpF
 split
 ·omega
 ·rename_i p w t h
  have:=plFrom_memF (Nat.le_refl n) (q:=(p,w)) (by show (p,w) ∈ plF n m d; rw [h]; exact List.mem_cons_self)
  simp only at this
  omega
theorem s68F {l:FaultLoom} (g:GoodF l) {ds:List FaultDamage} (hl:ds.length ≤ 1000) (hd:∀ d ∈ ds,dmgF l d=true):f20 ⟨l⟩ ds=some (ds.map fun d=>rndF l [d]):=by
 refine Yes.eq ?_
 unfold f20
 refine Yes.bind (Yes.upto ds.length (by omega) (fun i r=>r=(ds.take i).map fun d=>rndF l [d]) rfl (fun i r k hi hI hkF=>?_) (fun r k hI=>?_))
 ·subst hI
  refine Yes.cond (fun _=>Yes.bind (Yes.bind (Yes.idx rfl hi (Yes.bind (Yes.of (s55_oneF g (hd _ (List.getElem_mem hi))) (Yes.bind (Yes.apnd (by simp; omega) (by simp; omega) (Yes.some (hkF _ ?_))))))))) (fun h=>absurd h (by simp; omega))
  rw [List.take_succ_eq_append_getElem hi,List.map_append]; rfl
 ·subst hI
  rw [List.take_length]
  exact Yes.cond (fun h=>absurd h (by simp)) (fun _=>Yes.some (Yes.some rfl))
structure TopF (F : Nat → Nat → Int) (S : Nat → Nat → Prop) (r : Int) : Prop where
 le:∀ i k,S i k→F i k ≤ r
 pos:0 ≤ r
 at_:r=0 ∨ ∃ i k,S i k∧F i k=r
theorem TopF.none {F:Nat→Nat→Int} {S:Nat→Nat→Prop} (h:∀ i k,¬ S i k):TopF F S 0:=⟨fun i k hs=>absurd hs (h i k),Int.le_refl _,.inl rfl⟩
theorem TopF.same {F:Nat→Nat→Int} {S S':Nat→Nat→Prop} {r:Int} (h:TopF F S r) (e:∀ i k,S' i k ↔ S i k):TopF F S' r:=
 ⟨fun i k hs=>h.le i k ((e i k).1 hs),h.pos,h.at_.imp id fun ⟨i,k,hs,hf⟩=>⟨i,k,(e i k).2 hs,hf⟩⟩
theorem TopF.add {F:Nat→Nat→Int} {S S':Nat→Nat→Prop} {r:Int} {a b:Nat} (h:TopF F S r) (h0:0 ≤ F a b) (e:∀ i k,S' i k ↔ S i k ∨ (i=a∧k=b)):TopF F S' (max64 r (F a b)):=by
 unfold max64
 split
 ·rename_i hgt
  refine ⟨fun i k hs=>?_,by omega,.inr ⟨a,b,(e a b).2 (.inr ⟨rfl,rfl⟩),rfl⟩⟩
  rcases (e i k).1 hs with hs | ⟨rfl,rfl⟩
  ·have:=h.le i k hs; omega
  ·omega
 ·rename_i hle
  refine ⟨fun i k hs=>?_,h.pos,h.at_.imp id fun ⟨i,k,hs,hf⟩=>⟨i,k,(e i k).2 (.inl hs),hf⟩⟩
  rcases (e i k).1 hs with hs | ⟨rfl,rfl⟩
  ·exact h.le i k hs
  ·omega
def ddF (ds:List FaultDamage) (i:Nat):FaultDamage:=(ds[i]?).getD ⟨0,0,0,0,false⟩
theorem dd_atF {ds:List FaultDamage} {i:Nat} (h:i < ds.length):ds[i]=ddF ds i:=by unfold ddF; rw [List.getElem?_eq_getElem h]; rfl
def apF (l:FaultLoom) (ds:List FaultDamage) (i k:Nat):Int:=fpF (aplF l [ddF ds i] [ddF ds k])
theorem ap_rangeF (l:FaultLoom) (ds:List FaultDamage) (i k:Nat):0 ≤ apF l ds i k∧apF l ds i k ≤ l.Design.Rows.length:=fp_rangeF _ _ _
theorem cut_takeF {α:Type} {xs:List α} {i:Nat} (h:i ≤ xs.length):cut xs 0 (i:Int)=some (xs.take i):=by
 unfold cut
 rw [if_pos (by omega)]
 simp
theorem s38F (l:FaultLoom) (ds:List FaultDamage):Yes (f6 l ds) fun r=>if chkEF l ds=0 then TopF (apF l ds) (fun i k=>i < ds.length∧k < i) r.1∧r.2=0 else r=(0,chkEF l ds):=by
 unfold f6
 refine Yes.jn (Yes.bind (Yes.of (s18F _ _) (Yes.cond (fun h=>Yes.some ?_) (fun h=>?_))))
 ·have h : chkEF l ds ≠ 0 := by simpa using h
  rw [if_neg h]
 have h:chkEF l ds=0:=by simpa using h
 refine Yes.mono (Q':=fun r=>TopF (apF l ds) (fun i k=>i < ds.length∧k < i) r.1∧r.2=0) ?_ fun r hr=>by rw [if_pos h]; exact hr
 obtain ⟨g,hlen,hd⟩:GoodF l∧ds.length ≤ 100∧∀ d ∈ ds,dmgF l d=true:=by
  unfold chkEF at h
  split at h
  ·rename_i h1; exact absurd h h1
  rename_i h1
  split at h
  ·cases h
  split at h
  ·rename_i h2 h3; exact ⟨good_ofF (Decidable.not_not.1 h1),by omega,List.all_eq_true.1 h3⟩
  ·cases h
 have hr1:=g.r1
 have hw1:=g.w1
 refine Yes.jn (Yes.bind (Yes.of (s68F g (by omega) hd) (Yes.bind ?_)))
 generalize hX:(ds.map fun d=>rndF l [d])=X
 have hXl:X.length=ds.length:=by rw [← hX]; simp
 have hXa:∀ i (hi:i < X.length),X[i]=rndF l [ddF ds i]:=fun i hi=>by subst hX; rw [List.getElem_map,dd_atF]
 rw [hXl]
 refine Yes.upto ds.length (by omega) (fun i r=>TopF (apF l ds) (fun a b=>a < i∧b < a) r) (TopF.none fun i k h=>by omega) (fun i r k hi hI hkF=>?_) (fun r k hI=>?_)
 ·refine Yes.cond (fun _ => Yes.bind (Yes.bind (Yes.idx rfl (by omega) (Yes.bind (Yes.of (cut_takeF (by omega)) ?_))))) (fun h => absurd h (by simp; omega))
  have htl:(X.take i).length=i:=by rw [List.length_take]; omega
  rw [htl]
  refine Yes.upto i (by omega) (fun j r=>TopF (apF l ds) (fun a b=>(a < i∧b < a) ∨ (a=i∧b < j)) r) (hI.same fun a b=>by omega) (fun j r k2 hj hJ hk2=>?_) (fun r k2 hJ=>?_)
  ·refine Yes.cond (fun _ => Yes.bind (Yes.bind (Yes.idx rfl (by omega) (Yes.bind ?_)))) (fun h => absurd h (by simp; omega))
   rw [List.getElem_take,hXa,hXa]
   have hadd:TopF (apF l ds) (fun a b=>(a < i∧b < a) ∨ (a=i∧b < j + 1)) (max64 r (apF l ds i j)):=hJ.add (ap_rangeF l ds i j).1 fun a b=>by omega
   have hrange:=ap_rangeF l ds i j
   rw [rnd_isF,rnd_isF]
   unfold apF at hadd hrange
   have hpos:=hJ.pos
   cases hp:aplF l [ddF ds i] [ddF ds j] with
   | nil=>
    rw [hp] at hadd
    refine Yes.of (s83F (by omega) (by omega) (rcF l [ddF ds i]) (rcF l [ddF ds j]) (t:=(0,r)) ?_) ?_
    ·have : plF l.Design.Rows.length l.Harness.Warps.length (fun p w => rcF l [ddF ds i] p w != rcF l [ddF ds j] p w) = [] := hp
     rw [this]; rfl
    ·refine Yes.some (hk2 _ ?_)
     have:max64 r (fpF [])=r:=by unfold max64; rw [show fpF []=0 from rfl,if_neg (by omega)]
     rwa [this] at hadd
   | cons x xs=>
    obtain ⟨p,w⟩:=x
    rw [hp] at hadd hrange
    have e:w64 (p + 1)=p + 1:=by simp only [fpF] at hrange; exact w64_id (by omega) (by omega)
    refine Yes.of (s83F (by omega) (by omega) (rcF l [ddF ds i]) (rcF l [ddF ds j]) (t:=(1,max64 r (p + 1))) ?_) ?_
    ·have : plF l.Design.Rows.length l.Harness.Warps.length (fun p w => rcF l [ddF ds i] p w != rcF l [ddF ds j] p w) = (p, w) :: xs := hp
     rw [this]
     simp only [feedF,guardC,e]
     rfl
    ·exact Yes.some (hk2 _ hadd)
  ·exact Yes.cond (fun h=>absurd h (by simp)) (fun _=>Yes.some (hkF _ (hJ.same fun a b=>by omega)))
 ·exact Yes.cond (fun h=>absurd h (by simp)) (fun _=>Yes.some (Yes.some ⟨hI,rfl⟩))
end Go.Proofs.YtomjodbnpgbjnaaGreat
