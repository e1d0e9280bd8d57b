/- Plain laws: the points of any groups, and their orders. -/
import Derived.Test.YtmpjooneiaiffaaLawGD
set_option maxRecDepth 8000
namespace Go.Proofs.Ytmpjooneiaiffaa
open Go.RowKit

theorem bits1:∀ d:Nat,d < 8→∀ i:Nat,i < 3→Ig (d:Int) (i:Int)=some ((d / 2 ^ i:Nat):Int)∧(Xt .and ((d / 2 ^ i:Nat):Int) 1 == (0:Int))=(!d.testBit i)∧Cg 1 (i:Int)=some ((2 ^ i:Nat):Int):=by decide
theorem bits2:∀ d:Nat,d < 8→∀ i:Nat,i < 3→d.testBit i=false→Xt .or (d:Int) ((2 ^ i:Nat):Int)=((d + 2 ^ i:Nat):Int)∧d + 2 ^ i < 8∧∀ j:Nat,j < 3→(d + 2 ^ i).testBit j=(d.testBit j || decide (j=i)):=by decide
theorem bits3:∀ n:Nat,n < 4→Cg 1 (n:Int)=some ((2 ^ n:Nat):Int)∧1 ≤ 2 ^ n∧2 ^ n ≤ 8:=by decide
theorem bits4a:∀ n:Nat,n < 4→∀ d:Nat,d < 8→∀ i:Nat,i < 3→(d < 2 ^ n∧i < n∧d.testBit i=false)→d + 2 ^ i < 2 ^ n:=by decide
theorem bits4b:∀ n:Nat,n < 4→∀ d:Nat,d < 8→d < 2 ^ n - 1→((List.range 3).any fun i=>decide (i < n) && !d.testBit i)=true:=by decide
theorem Eu (n:Nat) (hn:n < 4) (d:Nat) (hd:d < 8):(d < 2 ^ n→∀ i:Nat,i < 3→i < n→d.testBit i=false→d + 2 ^ i < 2 ^ n)∧(d < 2 ^ n - 1→∃ i:Nat,i < 3∧i < n∧d.testBit i=false):=by
 refine ⟨fun h1 i h2 h3 h4=>bits4a n hn d hd i h2 ⟨h1,h3,h4⟩,fun h=>?_⟩
 obtain ⟨i,h1,h2⟩:=List.any_eq_true.1 (bits4b n hn d hd h)
 simp only [Bool.and_eq_true,decide_eq_true_eq,Bool.not_eq_true'] at h2
 exact ⟨i,List.mem_range.1 h1,h2.1,h2.2⟩
open Classical
def ful (x:List Int):Nat:=2 ^ x.length - 1
def stl (gs : List (List Int)) : Nat → Nat → Nat → Nat × Nat
 | 0,g,d=>(g,d)
 | n + 1,g,d=>if g < gs.length∧d=ful (gs.getD g []) then stl gs n (g + 1) 0 else (g,d)
theorem Ez {gs:List (List Int)} {g:Nat} (h:g < gs.length):gs.getD g []=gs[g]:=by simp [h]
section
variable {gs:List (List Int)}
theorem s65 (hg:gs.length ≤ 12) (h3:∀ x ∈ gs,x.length ≤ 3) (r:Gu) {g d:Nat} (hgl:g ≤ gs.length) (hd:d < 8):f65 ⟨(g:Int),(d:Int),r⟩ gs=some ⟨((stl gs (gs.length - g) g d).1:Int),((stl gs (gs.length - g) g d).2:Int),r⟩:=by
 refine Yes.eq ?_
 unfold f65
 refine Yes.bind (Yes.mono (Q':=fun p=>p=⟨((stl gs (gs.length - g) g d).1:Int),((stl gs (gs.length - g) g d).2:Int),r⟩) ?_ fun p hp=>Yes.some hp)
 refine Yes.lp (fun s=>∃ g1 d1:Nat,s=⟨(g1:Int),(d1:Int),r⟩∧g1 ≤ gs.length∧d1 < 8∧stl gs (gs.length - g1) g1 d1=stl gs (gs.length - g) g d) (fun s=>gs.length - s.group.toNat) ⟨g,d,rfl,hgl,hd,rfl⟩ (by simp only; omega) ?_
 rintro s kk ⟨g1,d1,rfl,a1,a2,a3⟩ hk
 refine Yes.jn ?_
 by_cases h1:g1 < gs.length
 ·have hx := Ez h1
  obtain ⟨b1,b2,b3⟩:=bits3 gs[g1].length (by have:=h3 _ (List.getElem_mem h1); omega)
  obtain ⟨n,hn⟩:∃ n,gs.length - g1=n + 1:=⟨gs.length - g1 - 1,by omega⟩
  rw [hn,stl] at a3
  have hchk:(bif decide ((g1:Int) < (gs.length:Int)) then (idx gs (g1:Int)).bind fun y9=>(Cg (1:Int) (y9.length:Int)).bind fun m8=>some ((d1:Int) == w64 (m8 - 1)) else some false)=some (decide (d1=ful (gs.getD g1 []))):=by
   rw [decide_eq_true (by omega),cond_true,Wu h1,Option.bind_some,b1,Option.bind_some,Tl (by omega) (by omega),hx]
   congr 1
   unfold ful
   by_cases h:d1=2 ^ gs[g1].length - 1
   ·rw [decide_eq_true h,beq_iff_eq]; omega
   ·rw [decide_eq_false h,beq_eq_false_iff_ne]; omega
  by_cases hf:d1=ful (gs.getD g1 [])
  ·rw [if_pos ⟨h1, hf⟩] at a3
   rw [decide_eq_true hf] at hchk
   refine Gj true hchk (Qr rfl (hk _ ⟨g1 + 1,0,?_,h1,by omega,?_⟩ ?_))
   ·show (⟨w64 ((g1 : Int) + 1), 0, r⟩ : Gd) = _
    rw [Tl (by omega) (by omega)]; simp
   ·rw [← a3,show gs.length - (g1 + 1)=n by omega]
   ·show gs.length - (w64 ((g1 : Int) + 1)).toNat < gs.length - ((g1 : Int)).toNat
    rw [Tl (by omega) (by omega)]; omega
  ·rw [if_neg fun h => hf h.2] at a3
   rw [decide_eq_false hf] at hchk
   exact Gj false hchk (Tw rfl (Yes.some (by rw [← a3])))
 ·have e : gs.length - g1 = 0 := by omega
  rw [e,stl] at a3
  exact Gj false (by rw [decide_eq_false (show ¬ (g1:Int) < (gs.length:Int) by omega)]; rfl) (Tw rfl (Yes.some (by rw [← a3])))
def fiC (x:List Int) (d:Nat) (c:Int):Option Nat:=(List.range x.length).find? fun i=>decide (x.getD i 0=c) && !d.testBit i
theorem fi_some {x:List Int} {d:Nat} {c:Int} {i:Nat}:fiC x d c=some i ↔ (x.getD i 0=c∧d.testBit i=false)∧i < x.length∧∀ j,j < i→¬ (x.getD j 0=c∧d.testBit j=false):=by
 unfold fiC
 rw [List.find?_range_eq_some]
 simp
 intro _ _ _
 constructor <;> intro h j hj <;> have:=h j hj <;> by_cases e:x[j]?.getD 0=c <;> simp_all
theorem fi_none {x:List Int} {d:Nat} {c:Int}:fiC x d c=none ↔ ∀ j,j < x.length→¬ (x.getD j 0=c∧d.testBit j=false):=by
 unfold fiC
 rw [List.find?_range_eq_none]
 refine forall_congr' fun j=>forall_congr' fun hj=>?_
 by_cases e:x.getD j 0=c
 ·rw [decide_eq_true e]
  cases hb:d.testBit j with
  | false=>exact ⟨fun h=>by simp at h,fun h=>absurd ⟨e,rfl⟩ h⟩
  | true=>exact ⟨fun _ h=>absurd h.2 (by simp),fun _=>rfl⟩
 ·rw [decide_eq_false e]
  exact ⟨fun _ h=>e h.1,fun _=>rfl⟩
theorem s88 (hg : gs.length ≤ 12) (h3 : ∀ x ∈ gs, x.length ≤ 3) (r : Gu) {g d : Nat} (hgl : g < gs.length) (hd : d < 8) (s : Tc) :
  f88 ⟨(g:Int),(d:Int),r⟩ gs s=some (match fiC (gs.getD g []) d s.colour with | some i=>(⟨((stl gs (gs.length - g) g (d + 2 ^ i)).1:Int),((stl gs (gs.length - g) g (d + 2 ^ i)).2:Int),s.next⟩,true) | none=>(⟨(g:Int),(d:Int),r⟩,false)):=by
 have hx:=Ez hgl
 have hx3:=h3 _ (List.getElem_mem hgl)
 refine Yes.eq ?_
 unfold f88
 refine Yes.jn (Gj _ (Wu hgl) ?_)
 refine Yes.lp (fun t=>t.1=⟨(g:Int),(d:Int),r⟩∧∃ i:Nat,t.2.2=i∧i ≤ gs[g].length∧∀ j,j < i→¬ (gs[g].getD j 0=s.colour∧d.testBit j=false)) (fun t=>gs[g].length - t.2.2.toNat) ⟨rfl,0,rfl,Nat.zero_le _,fun j hj=>absurd hj (Nat.not_lt_zero _)⟩ (by simp only; omega) ?_
 rintro ⟨p,q,u⟩ kk ⟨rfl,i,hu,hi,hno⟩ hk
 simp only at hu
 subst hu
 by_cases h1:i < gs[g].length
 ·obtain ⟨c1, c2, c3⟩ := bits1 d hd i (by omega)
  have hgi:gs[g].getD i 0=gs[g][i]:=by simp [h1]
  refine Qr (decide_eq_true (by omega)) (Yes.jn (Gj _ (Wu h1) ?_))
  have hchk:(bif gs[g][i] == s.colour then (Ig (d:Int) (i:Int)).bind fun y180=>some (Xt .and y180 (1:Int) == (0:Int)) else some false)=some (decide (gs[g].getD i 0=s.colour∧d.testBit i=false)):=by
   rw [hgi]
   by_cases h:gs[g][i]=s.colour
   ·rw [show (gs[g][i] == s.colour) = true from beq_iff_eq.2 h, cond_true, c1, Option.bind_some, c2]
    cases d.testBit i <;> simp [h]
   ·rw [show (gs[g][i] == s.colour) = false from beq_eq_false_iff_ne.2 h, cond_false]
    simp [h]
  by_cases hm:gs[g].getD i 0=s.colour∧d.testBit i=false
  ·obtain ⟨e1, e2, e3⟩ := bits2 d hd i (by omega) hm.2
   have hfi:fiC (gs.getD g []) d s.colour=some i:=by rw [hx,fi_some]; exact ⟨hm,h1,hno⟩
   rw [decide_eq_true hm] at hchk
   refine Gj true hchk (Qr rfl (Gj _ c3 ?_))
   dsimp only
   rw [e1,hfi]
   exact Gj _ (s65 hg h3 s.next (by omega) e2) (Yes.some rfl)
  ·rw [decide_eq_false hm] at hchk
   refine Gj false hchk (Tw rfl (hk _ ⟨rfl,i + 1,?_,h1,fun j hj=>?_⟩ ?_))
   ·show w64 ((i : Int) + 1) = _
    rw [Tl (by omega) (by omega)]; simp
   ·by_cases hj' : j = i
    ·rw [hj']; exact hm
    ·exact hno j (by omega)
   ·show gs[g].length - (w64 ((i : Int) + 1)).toNat < gs[g].length - ((i : Int)).toNat
    rw [Tl (by omega) (by omega)]; omega
 ·have hfi : fiC (gs.getD g []) d s.colour = none := by rw [hx, fi_none]; exact fun j hj => hno j (by omega)
  rw [hfi]
  exact Tw (decide_eq_false (by omega)) (Yes.some rfl)
def und (x:List Int) (d:Nat):List Int:=((List.range x.length).filter fun i=>!d.testBit i).map fun i=>x.getD i 0
theorem Vz (x:List Int):und x 0=x:=by
 unfold und
 rw [List.filter_eq_self.2 (by simp)]
 refine List.ext_getElem (by simp) fun i h1 h2=>?_
 simp [h2]
theorem und_ful (x:List Int):und x (ful x)=[]:=by
 unfold und ful
 rw [List.filter_eq_nil_iff.2 fun i hi=>by simp [Nat.testBit_two_pow_sub_one,List.mem_range.1 hi]]; rfl
theorem La {p : Nat → Bool} {i : Nat} (hp : p i = true) : ∀ {xs : List Nat}, xs.Nodup → i ∈ xs → (xs.filter p).Perm (i :: xs.filter fun j => p j && !decide (j = i))
 | [],_,h=>by cases h
 | x :: xs,hn,h=>by
  rw [List.nodup_cons] at hn
  by_cases hx:x=i
  ·subst hx
   rw [List.filter_cons_of_pos hp,List.filter_cons_of_neg (by simp)]
   refine List.Perm.cons _ (List.Perm.of_eq (List.filter_congr fun j hj=>?_))
   have:j ≠ x:=fun e=>hn.1 (e ▸ hj)
   simp [this]
  ·have hi : i ∈ xs := by rcases List.mem_cons.1 h with h | h; exact absurd h.symm hx; exact h
   have ih:=La hp hn.2 hi
   cases hpx:p x with
   | true=>
    rw [List.filter_cons_of_pos hpx,List.filter_cons_of_pos (by simp [hpx,hx])]
    exact (ih.cons x).trans (List.Perm.swap _ _ _)
   | false=>
    rw [List.filter_cons_of_neg (by simp [hpx]),List.filter_cons_of_neg (by simp [hpx])]
    exact ih
theorem Fk {x:List Int} (h3:x.length ≤ 3) {d i:Nat} (hd:d < 8) (hi:i < x.length) (hb:d.testBit i=false):(und x d).Perm (x.getD i 0 :: und x (d + 2 ^ i)):=by
 unfold und
 have h:=La (p:=fun j=>!d.testBit j) (i:=i) (by simp [hb]) List.nodup_range (List.mem_range.2 hi)
 refine (h.map fun i=>x.getD i 0).trans ?_
 rw [List.map_cons]
 refine List.Perm.cons _ (List.Perm.of_eq ?_)
 congr 1
 refine List.filter_congr fun j hj=>?_
 have:=(bits2 d hd i (by omega) hb).2.2 j (by have:=List.mem_range.1 hj; omega)
 rw [this]
 cases d.testBit j <;> simp
def OsG : List (List Int) → List Int → Prop
 | [],o=>o=[]
 | x :: xs,o=>∃ p q,o=p ++ q∧p.Perm x∧OsG xs q
theorem OsG.nil_cons {xs:List (List Int)} {o:List Int}:OsG ([] :: xs) o ↔ OsG xs o:=by
 constructor
 ·rintro ⟨p, q, rfl, hp, hq⟩
  rw [List.Perm.eq_nil hp]; exact hq
 ·intro h; exact ⟨[],o,rfl,List.Perm.refl _,h⟩
theorem OsG.cons {x:List Int} (hx:x ≠ []) {xs:List (List Int)} {o:List Int}:OsG (x :: xs) o ↔ ∃ c o',o=c :: o'∧c ∈ x∧∀ x',x.Perm (c :: x')→OsG (x' :: xs) o':=by
 constructor
 ·rintro ⟨p, q, rfl, hp, hq⟩
  cases p with
  | nil=>exact absurd (List.Perm.eq_nil hp.symm) hx
  | cons c p=>
   refine ⟨c,p ++ q,rfl,hp.mem_iff.1 (by simp),fun x' hx'=>⟨p,q,rfl,(hp.trans hx').cons_inv,hq⟩⟩
 ·rintro ⟨c, o', rfl, hc, h⟩
  obtain ⟨a,b,rfl⟩:=List.append_of_mem hc
  obtain ⟨p,q,rfl,hp,hq⟩:=h (a ++ b) List.perm_middle
  exact ⟨c :: p,q,rfl,(hp.cons c).trans List.perm_middle.symm,hq⟩
def rest (gs:List (List Int)) (g d:Nat):List (List Int):=und (gs.getD g []) d :: gs.drop (g + 1)
def VdG (gs:List (List Int)) (g d:Nat):Prop:=(g=gs.length∧d=0) ∨ (g < gs.length∧d < ful (gs.getD g []))
def VG (gs:List (List Int)) (pt:Gd) (k:Nat):Prop:=∃ g d:Nat,pt.group=(g:Int)∧pt.done=(d:Int)∧k=(rest gs g d).flatten.length∧VdG gs g d
noncomputable def NG (gs:List (List Int)) (g d c:Int):Option (Int × Int):=(fiC (gs.getD g.toNat []) d.toNat c).map fun i=>(((stl gs (gs.length - g.toNat) g.toNat (d.toNat + 2 ^ i)).1:Int),((stl gs (gs.length - g.toNat) g.toNat (d.toNat + 2 ^ i)).2:Int))
theorem Ms : ∀ (n : Nat) {g d : Nat}, n = gs.length - g → g ≤ gs.length → (g = gs.length → d = 0) → (g < gs.length → d ≤ ful (gs.getD g [])) →
  VdG gs (stl gs n g d).1 (stl gs n g d).2∧(rest gs (stl gs n g d).1 (stl gs n g d).2).flatten.length=(rest gs g d).flatten.length∧∀ o,OsG (rest gs (stl gs n g d).1 (stl gs n g d).2) o ↔ OsG (rest gs g d) o
 | 0,g,d,hn,h1,h2,_=>by
  rw [stl]
  exact ⟨.inl ⟨by simp only; omega,h2 (by omega)⟩,rfl,fun _=>Iff.rfl⟩
 | n + 1,g,d,hn,h1,h2,h3=>by
  have hlt:g < gs.length:=by omega
  rw [stl]
  by_cases hf:g < gs.length∧d=ful (gs.getD g [])
  ·rw [if_pos hf]
   obtain ⟨i1,i2,i3⟩:=Ms n (g:=g + 1) (d:=0) (by omega) (by omega) (fun _=>rfl) (fun _=>Nat.zero_le _)
   have hr:rest gs g d=[] :: gs.drop (g + 1):=by unfold rest; rw [hf.2,und_ful]
   have hr2:(rest gs (g + 1) 0).flatten.length=(gs.drop (g + 1)).flatten.length∧∀ o,OsG (rest gs (g + 1) 0) o ↔ OsG (gs.drop (g + 1)) o:=by
    unfold rest
    rw [Vz]
    by_cases h:g + 1 < gs.length
    ·rw [Ez h,← List.drop_eq_getElem_cons h]; exact ⟨rfl,fun _=>Iff.rfl⟩
    ·have e1 : gs.getD (g + 1) [] = [] := by simp; rw [List.getElem?_eq_none (by omega)]; rfl
     rw [e1,List.drop_eq_nil_of_le (by omega),List.drop_eq_nil_of_le (by omega)]
     exact ⟨rfl,fun o=>OsG.nil_cons⟩
   refine ⟨i1,?_,fun o=>?_⟩
   ·rw [i2,hr2.1,hr]; simp
   ·rw [i3,hr2.2,hr,OsG.nil_cons]
  ·rw [if_neg hf]
   refine ⟨.inr ⟨hlt,?_⟩,rfl,fun _=>Iff.rfl⟩
   have:=h3 hlt
   have:d ≠ ful (gs.getD g []):=fun h=>hf ⟨hlt,h⟩
   simp only; omega
theorem Ln (h3:∀ x ∈ gs,x.length ≤ 3) {g:Nat} (hg:g < gs.length):(gs.getD g []).length ≤ 3∧ful (gs.getD g []) < 8∧ful (gs.getD g []) + 1=2 ^ (gs.getD g []).length:=by
 rw [Ez hg]
 have h:=h3 _ (List.getElem_mem hg)
 have:=bits3 gs[g].length (by omega)
 unfold ful; omega
theorem Mn (h3 : ∀ x ∈ gs, x.length ≤ 3) {g d : Nat} (hg : g < gs.length) (hd : d < ful (gs.getD g [])) {c : Int} {i : Nat} (hi : fiC (gs.getD g []) d c = some i) :
  (und (gs.getD g []) d).Perm (c :: und (gs.getD g []) (d + 2 ^ i))∧d + 2 ^ i ≤ ful (gs.getD g []):=by
 obtain ⟨f1,f2,f3⟩:=Ln h3 hg
 obtain ⟨⟨h1,h2⟩,h4,_⟩:=fi_some.1 hi
 have hs:=Fk f1 (d:=d) (by omega) h4 h2
 rw [h1] at hs
 have:=(Eu (gs.getD g []).length (by omega) d (by omega)).1 (by omega) i (by omega) h4 h2
 exact ⟨hs,by omega⟩
theorem nx_grp (hg:gs.length ≤ 12) (h3:∀ x ∈ gs,x.length ≤ 3):Nx gs (VG gs) (NG gs):=by
 have hne:∀ {g d:Nat},g < gs.length→d < ful (gs.getD g [])→und (gs.getD g []) d ≠ []:=fun {g d} h1 h2=>by
  obtain ⟨f1,f2,f3⟩:=Ln h3 h1
  obtain ⟨i,i1,i2,i3⟩:=(Eu (gs.getD g []).length (by omega) d (by omega)).2 (by omega)
  intro h
  have hs:=Fk f1 (d:=d) (by omega) i2 i3
  rw [h] at hs
  exact absurd (List.Perm.eq_nil hs.symm) (by simp)
 have step:∀ {pt:Gd} {k:Nat} {s:Tc},VG gs pt (k + 1)→∃ g d:Nat,pt.group=(g:Int)∧pt.done=(d:Int)∧g < gs.length∧d < 8∧d < ful (gs.getD g [])∧(rest gs g d).flatten.length=k + 1:=by
  rintro pt k s ⟨g,d,h1,h2,h4,h5⟩
  rcases h5 with ⟨rfl,rfl⟩ | ⟨h5,h6⟩
  ·exfalso
   have:rest gs gs.length 0=[[]]:=by
    unfold rest; rw [Vz,List.drop_eq_nil_of_le (by omega)]
    have e1:gs.getD gs.length []=[]:=by simp
    rw [e1]
   rw [this] at h4; simp at h4
  ·exact ⟨g,d,h1,h2,h5,by have:=(Ln h3 h5).2.1; omega,h6,h4.symm⟩
 have to:∀ {pt:Gd} {k g d i:Nat} {c:Int} (r:Gu),g < gs.length→d < ful (gs.getD g [])→(rest gs g d).flatten.length=k + 1→fiC (gs.getD g []) d c=some i→VG gs ⟨((stl gs (gs.length - g) g (d + 2 ^ i)).1:Int),((stl gs (gs.length - g) g (d + 2 ^ i)).2:Int),r⟩ k:=by
  intro pt k g d i c r h1 h2 h4 h5
  obtain ⟨p1,p2⟩:=Mn h3 h1 h2 h5
  obtain ⟨q1,q2,_⟩:=Ms (gs:=gs) (gs.length - g) (g:=g) (d:=d + 2 ^ i) rfl (by omega) (fun h=>by omega) (fun _=>p2)
  refine ⟨_,_,rfl,rfl,?_,q1⟩
  rw [q2]
  have:=p1.length_eq
  unfold rest at h4 ⊢
  rw [List.flatten_cons,List.length_append] at h4 ⊢
  rw [List.length_cons] at this
  omega
 have e88:∀ {pt:Gd} {g d:Nat} (s:Tc),pt.group=(g:Int)→pt.done=(d:Int)→g < gs.length→d < 8→f88 pt gs s=some (match fiC (gs.getD g []) d s.colour with | some i=>(⟨((stl gs (gs.length - g) g (d + 2 ^ i)).1:Int),((stl gs (gs.length - g) g (d + 2 ^ i)).2:Int),s.next⟩,true) | none=>(pt,false)):=by
  intro pt g d s h1 h2 h4 h5
  obtain ⟨pg,pd,pr⟩:=pt
  simp only at h1 h2
  subst h1; subst h2
  exact s88 hg h3 pr h4 h5 s
 refine ⟨⟨?_,?_,?_⟩,?_,?_⟩
 ·rintro pt k ⟨g, d, h1, h2, h4, h5⟩
  rw [h1]
  rcases h5 with ⟨rfl,rfl⟩ | ⟨h5,h6⟩
  ·have:rest gs gs.length 0=[[]]:=by
    unfold rest; rw [Vz,List.drop_eq_nil_of_le (by omega)]
    have e1:gs.getD gs.length []=[]:=by simp
    rw [e1]
   rw [this] at h4
   exact ⟨fun _=>by simpa using h4,fun _=>rfl⟩
  ·constructor
   ·intro h; omega
   ·intro h
    subst h
    have:=hne h5 h6
    unfold rest at h4
    rw [List.flatten_cons,List.length_append] at h4
    exact absurd (List.length_eq_zero_iff.1 (by omega)) this
 ·rintro pt k k' ⟨g, d, h1, h2, h4, _⟩ ⟨g', d', h1', h2', h4', _⟩
  have e1:g=g':=by omega
  have e2:d=d':=by omega
  rw [h4,h4',e1,e2]
 ·intro pt k s hv
  obtain ⟨g,d,h1,h2,h4,h5,h6,h7⟩:=step (s:=s) hv
  have e:=e88 s h1 h2 h4 h5
  cases hf:fiC (gs.getD g []) d s.colour with
  | none=>rw [hf] at e; exact ⟨_,_,e,fun h=>by cases h⟩
  | some i=>rw [hf] at e; exact ⟨_,_,e,fun _=>⟨rfl,to (pt:=pt) _ h4 h6 h7 hf⟩⟩
 ·intro pt k s g' d' hv hn
  obtain ⟨g,d,h1,h2,h4,h5,h6,h7⟩:=step (s:=s) hv
  have e:=e88 s h1 h2 h4 h5
  unfold NG at hn
  rw [h1,h2] at hn
  simp only [Int.toNat_natCast] at hn
  cases hf:fiC (gs.getD g []) d s.colour with
  | none=>rw [hf] at hn; cases hn
  | some i=>rw [hf] at hn e; cases hn; exact e
 ·intro pt k s hv hn
  obtain ⟨g,d,h1,h2,h4,h5,h6,h7⟩:=step (s:=s) hv
  have e:=e88 s h1 h2 h4 h5
  unfold NG at hn
  rw [h1,h2] at hn
  simp only [Int.toNat_natCast] at hn
  cases hf:fiC (gs.getD g []) d s.colour with
  | none=>rw [hf] at e; exact ⟨_,e⟩
  | some i=>rw [hf] at hn; cases hn
theorem ord_os (h3 : ∀ x ∈ gs, x.length ≤ 3) : ∀ (k : Nat) {g d : Nat} {o : List Int}, VdG gs g d → (rest gs g d).flatten.length = k → (Ru (NG gs) k (g : Int) (d : Int) o ↔ OsG (rest gs g d) o)
 | 0,g,d,o,hv,hk=>by
  rcases hv with ⟨rfl,rfl⟩ | ⟨h5,h6⟩
  ·have:rest gs gs.length 0=[[]]:=by
    unfold rest; rw [Vz,List.drop_eq_nil_of_le (by omega)]
    have e1:gs.getD gs.length []=[]:=by simp
    rw [e1]
   rw [this,OsG.nil_cons]; exact Iff.rfl
  ·exfalso
   obtain ⟨f1,f2,f3⟩:=Ln h3 h5
   obtain ⟨i,i1,i2,i3⟩:=(Eu (gs.getD g []).length (by omega) d (by omega)).2 (by omega)
   have hs:=(Fk f1 (d:=d) (by omega) i2 i3).length_eq
   unfold rest at hk
   rw [List.flatten_cons,List.length_append] at hk
   rw [List.length_cons] at hs
   omega
 | k + 1,g,d,o,hv,hk=>by
  rcases hv with ⟨rfl,rfl⟩ | ⟨h5,h6⟩
  ·exfalso
   have:rest gs gs.length 0=[[]]:=by
    unfold rest; rw [Vz,List.drop_eq_nil_of_le (by omega)]
    have e1:gs.getD gs.length []=[]:=by simp
    rw [e1]
   rw [this] at hk; simp at hk
  ·obtain ⟨f1, f2, f3⟩ := Ln h3 h5
   have hne:und (gs.getD g []) d ≠ []:=by
    obtain ⟨i,i1,i2,i3⟩:=(Eu (gs.getD g []).length (by omega) d (by omega)).2 (by omega)
    intro h
    have hs:=Fk f1 (d:=d) (by omega) i2 i3
    rw [h] at hs
    exact absurd (List.Perm.eq_nil hs.symm) (by simp)
   -- one colour further
   have key:∀ {c:Int} {i:Nat} {o':List Int},fiC (gs.getD g []) d c=some i→(Ru (NG gs) k ((stl gs (gs.length - g) g (d + 2 ^ i)).1:Int) ((stl gs (gs.length - g) g (d + 2 ^ i)).2:Int) o' ↔ OsG (und (gs.getD g []) (d + 2 ^ i) :: gs.drop (g + 1)) o'):=fun {c i o'} hf=>by
    obtain ⟨p1,p2⟩:=Mn h3 h5 h6 hf
    obtain ⟨q1,q2,q3⟩:=Ms (gs:=gs) (gs.length - g) (g:=g) (d:=d + 2 ^ i) rfl (by omega) (fun h=>by omega) (fun _=>p2)
    have hl:(rest gs g (d + 2 ^ i)).flatten.length=k:=by
     have:=p1.length_eq
     unfold rest at hk ⊢
     rw [List.flatten_cons,List.length_append] at hk ⊢
     rw [List.length_cons] at this
     omega
    rw [ord_os h3 k q1 (q2.trans hl),q3]; rfl
   have hN:∀ c,NG gs (g:Int) (d:Int) c=(fiC (gs.getD g []) d c).map fun i=>(((stl gs (gs.length - g) g (d + 2 ^ i)).1:Int),((stl gs (gs.length - g) g (d + 2 ^ i)).2:Int)):=fun c=>by
    unfold NG; simp only [Int.toNat_natCast]
   unfold rest
   rw [OsG.cons hne]
   constructor
   ·rintro ⟨c, o', g', d', rfl, hn, ho⟩
    rw [hN] at hn
    cases hf:fiC (gs.getD g []) d c with
    | none=>rw [hf] at hn; cases hn
    | some i=>
     rw [hf] at hn; cases hn
     obtain ⟨p1,_⟩:=Mn h3 h5 h6 hf
     refine ⟨c,o',rfl,p1.mem_iff.2 (by simp),fun x' hx'=>?_⟩
     obtain ⟨p,q,rfl,hp,hq⟩:=(key hf).1 ho
     exact ⟨p,q,rfl,hp.trans (p1.symm.trans hx').cons_inv,hq⟩
   ·rintro ⟨c, o', rfl, hc, h⟩
    cases hf:fiC (gs.getD g []) d c with
    | none=>
     exfalso
     unfold und at hc
     obtain ⟨j,hj,hjc⟩:=List.mem_map.1 hc
     obtain ⟨hj1,hj2⟩:=List.mem_filter.1 hj
     exact fi_none.1 hf j (List.mem_range.1 hj1) ⟨hjc,by simpa using hj2⟩
    | some i=>
     obtain ⟨p1,_⟩:=Mn h3 h5 h6 hf
     exact ⟨c,o',_,_,rfl,by rw [hN,hf]; rfl,(key hf).2 (h _ p1)⟩
end
/-! ### Costs of orders -/
theorem Ao {l : BoxLoom} : ∀ (cs : List Int) {l' : BoxLoom}, LOk l' → l'.Boxes = l.Boxes → cR (nbx l 0) (nbx l 1) cs (rc l') = cL cs l'
 | [],_,_,_=>by rw [cR,cL]
 | c :: cs,l',hl',hB=>by
  rw [cR,cL,← Kt hB,← Kt hB,Ro hl']
  unfold stL
  rw [List.foldl_filterMap]
  refine Rz _ _ fun p hp b=>?_
  unfold stp Um
  cases ho:Ka l' p with
  | none=>rfl
  | some x=>
   obtain ⟨h4,h5,_⟩:=Ja hl' ((Ys hl').1 hp) (show Ka l' p=some (x.1,x.2.1,x.2.2) from ho)
   simp only [Option.map_some]
   unfold mnF cRF
   by_cases hc:Qy l' x.2.1=c
   ·simp only [if_pos hc]
    rw [Kt hB,Kt hB,Ao cs h4 (h5.trans hB)]
   ·simp only [if_neg hc]
end Go.Proofs.Ytmpjooneiaiffaa
