/- BoxNoFewer. -/
import Derived.Test.YtmpjooneiaiffaaLawGD
import Derived.Test.YtmpjooneiaiffaaLawV
import Derived.Test.YtmpjooneiaiffaaLawGF
set_option maxRecDepth 8000
namespace Go.Proofs.Ytmpjooneiaiffaa
open Go.RowKit
open Classical

theorem oneL_cols {l:BoxLoom} (hd:Dst l.Shuttles) {p:Gf} {n:BoxLoom} {i:Nat} {m:Int} (h:Ka l p=some (n,i,m)) (t:List Nat):t.map (Qy n)=t.map (Qy l):=List.map_congr_left fun j _=>Aw hd h j
theorem cL_le : ∀ (ps : List Gf) {l n : BoxLoom}, LOk l → (∀ p ∈ ps, okP l.Boxes p = true) → thr l ps = some n → cL ((thl l ps).map (Qy l)) l ≤ mvt l ps
 | [],l,n,_,_,_=>by rw [thl,mvt,List.map_nil,cL]; exact Int.le_refl _
 | p :: ps,l,n,hl,hp,h=>by
  rw [Xe] at h
  cases ho:Ka l p with
  | none=>rw [ho] at h; cases h
  | some x=>
   obtain ⟨n1,i,m⟩:=x
   rw [ho] at h
   have hp0:=hp p (by simp)
   obtain ⟨h1,h2,_⟩:=Ja hl hp0 ho
   have hp1:∀ q ∈ ps,okP n1.Boxes q=true:=fun q hq=>by rw [h2]; exact hp q (by simp [hq])
   have ih:=cL_le ps h1 hp1 h
   have e1:thl l (p :: ps)=i :: thl n1 ps:=by rw [thl,ho]
   have e2:mvt l (p :: ps)=m + mvt n1 ps:=by rw [mvt,ho]
   rw [e1,e2,List.map_cons,← oneL_cols hl.dst ho,cL]
   rcases Int.lt_or_le (m + mvt n1 ps) ((Wx l).foldl (Um l (Qy l i) fun n=>cL ((thl n1 ps).map (Qy n1)) n) Ti) with hh | hh
   ·have := (Cu (l := l) (c := Qy l i) (F := fun n => cL ((thl n1 ps).map (Qy n1)) n) (t := m + mvt n1 ps + 1) (Wx l) Ti).2 (.inr ⟨p, (Ys hl).2 hp0, (n1, i, m), ⟨ho, rfl⟩, by show m + cL ((thl n1 ps).map (Qy n1)) n1 < _; omega⟩)
    omega
   ·exact hh
theorem s44 {l:BoxLoom} {t:List Nat} (ht:∀ i ∈ t,i < l.Shuttles.length) (hlen:t.length ≤ 1000):f44 l (t.map fun i:Nat=>(i:Int))=some (t.map (Qy l)):=by
 refine Yes.eq ?_
 unfold f44
 refine Yes.bind (Yes.mono (Q':=fun r=>r=t.map (Qy l)) ?_ fun r hr=>Yes.some hr)
 refine Yes.upto t.length (by omega) (fun i s=>s=(t.take i).map (Qy l)) (by simp) (fun i s k hi hI hk=>?_) (fun s k hI=>Yes.jn (Tw (by simp) (Yes.some (by rw [hI,List.take_length]))))
 have hti:=ht _ (List.getElem_mem hi)
 have hs:s.length ≤ 1000:=by rw [hI]; simp; omega
 refine Yes.jn (Qr (by simp; omega) (Yes.jn (Yes.bind (Gj ((t[i]:Nat):Int) (by rw [Wu (by simpa using hi)]; simp) (Gj _ (Wu hti) (Yes.bind (Yes.apnd (by simp; omega) (by simp; omega) (Yes.some (hk _ ?_)))))))))
 rw [Kl hi,List.map_append,hI,← Bd hti]; rfl
theorem cols_all {l:BoxLoom} (hl:LOk l) (t:List Nat):(t.map (Qy l)).all (btw 0 9)=true:=by
 rw [List.all_eq_true]
 intro c hc
 obtain ⟨i,_,rfl⟩:=List.mem_map.1 hc
 exact Wl.2 (Bg hl i)
theorem s17p {l:BoxLoom} {cs:List Int} (hl:LOk l) (h24:cs.length ≤ 24) (hc:cs.all (btw 0 9)=true) (hlt:cL cs l < Ti):f17 l cs=some ((rf cs l).1,cL cs l,0,0):=by
 have hR:=Av cs (by omega) hl
 rw [s17 hl h24 hc,if_pos (hR.all.1 hlt),hR.mv hlt]
end Go.Proofs.Ytmpjooneiaiffaa
/- BoxGroups: the plain law. -/
set_option maxRecDepth 8000
namespace Go.Proofs.Ytmpjooneiaiffaa
open Go.RowKit
open Classical

theorem Lx.refl : ∀ a : List Int, Lx a a
 | []=>trivial
 | _ :: a=>.inr ⟨rfl,Lx.refl a⟩
theorem Lx.total : ∀ {a b : List Int}, a.length = b.length → Lx a b ∨ Lx b a
 | [],_,_=>.inl trivial
 | _ :: _,[],h=>by simp at h
 | x :: a,y :: b,h=>by
  rcases Int.lt_trichotomy x y with h1 | h1 | h1
  ·exact .inl (.inl h1)
  ·subst h1
   rcases Lx.total (a:=a) (b:=b) (by simpa using h) with h2 | h2
   ·exact .inl (.inr ⟨rfl,h2⟩)
   ·exact .inr (.inr ⟨rfl,h2⟩)
  ·exact .inr (.inl h1)
theorem Lx.trans : ∀ {a b c : List Int}, Lx a b → Lx b c → a.length = b.length → Lx a c
 | [],_,_,_,_,_=>trivial
 | _ :: _,[],_,h,_,_=>h.elim
 | _ :: _,_ :: _,[],_,h,_=>h.elim
 | x :: a,y :: b,z :: c,h1,h2,h=>by
  rcases h1 with h1 | ⟨rfl,h1⟩
  ·rcases h2 with h2 | ⟨rfl, _⟩
   ·exact .inl (by omega)
   ·exact .inl h1
  ·rcases h2 with h2 | ⟨rfl, h2⟩
   ·exact .inl h2
   ·exact .inr ⟨rfl,Lx.trans h1 h2 (by simpa using h)⟩
theorem Lx.app : ∀ (c : List Int) {a b : List Int}, Lx (c ++ a) (c ++ b) ↔ Lx a b
 | [],_,_=>Iff.rfl
 | x :: c,a,b=>by
  constructor
  ·rintro (h | ⟨_, h⟩)
   ·omega
   ·exact (Lx.app c).1 h
  ·intro h; exact .inr ⟨rfl,(Lx.app c).2 h⟩
theorem s69 {a b:List Int} (h:a.length=b.length) (hl:a.length ≤ 1000):f69 a b=some (decide (¬ Lx b a)):=by
 refine Yes.eq ?_
 unfold f69
 refine Yes.jn (Yes.upto0 a.length (by omega) (fun i=>a.take i=b.take i) (by simp) (fun i k hi hI hk=>?_) (fun k hI=>?_))
 ·have hib : i < b.length := by omega
  refine Yes.jn (Qr (decide_eq_true (by omega)) (Yes.jn (Gj _ (Wu hi) (Gj _ (Wu hib) (Yes.cond (fun hc=>?_) (fun hc=>hk ?_))))))
  ·have hne : a[i] ≠ b[i] := by simpa using hc
   refine Gj _ (Wu hi) (Gj _ (Wu hib) (Yes.some ?_))
   congr 1
   have e1:a=a.take i ++ a[i] :: a.drop (i + 1):=by rw [← List.drop_eq_getElem_cons hi,List.take_append_drop]
   have e2:b=a.take i ++ b[i] :: b.drop (i + 1):=by rw [hI,← List.drop_eq_getElem_cons hib,List.take_append_drop]
   have e3:Lx b a ↔ b[i] < a[i]:=by
    conv=>lhs; rw [e1,e2]
    rw [Lx.app]
    exact ⟨fun hh=>hh.elim id fun hh=>absurd hh.1.symm hne,.inl⟩
   rw [e3]
   exact propext ⟨fun hh=>by omega,fun hh=>by omega⟩
  ·have he : a[i] = b[i] := by simpa using hc
   rw [List.take_succ_eq_append_getElem hi,List.take_succ_eq_append_getElem hib,hI,he]
 ·have he : a = b := by rw [List.take_length, h, List.take_length] at hI; exact hI
  refine Yes.jn (Tw (decide_eq_false (by omega)) (Yes.some ?_))
  rw [he]; exact (decide_eq_false (fun hh=>hh (Lx.refl b))).symm
section
variable {l:BoxLoom} {gs:List (List Int)}
theorem s27 (hl : LOk l) (hg : gs.length ≤ 8) (h3 : ∀ g ∈ gs, g.length ≤ 3) (h4 : gs.flatten.length ≤ 4) :
  Yes (f27 l gs) fun r=>(r.2.2=true→Best l gs r.1 r.2.1)∧(r.2.2=false→∀ o,OsG gs o→Ti ≤ cL o l):=by
 unfold f27
 refine Yes.bind ((s68 hg h3 h4).mono fun os hos=>?_)
 obtain ⟨o1,o2⟩:=hos
 refine Yes.bind (Yes.mono (Q':=fun r:List Int × Int × Bool=>(r.2.2=true→Best l gs r.1 r.2.1)∧(r.2.2=false→∀ o,OsG gs o→Ti ≤ cL o l)) ?_ fun r hr=>Yes.some hr)
 refine Yes.lp (fun s=>∃ i:Nat,s.2.2.2=i∧i ≤ os.length∧(s.2.2.1=false→∀ o ∈ os.take i,Ti ≤ cL o l)∧(s.2.2.1=true→OsG gs s.1∧cL s.1 l=s.2.1∧s.2.1 < Ti∧∀ o ∈ os.take i,s.2.1 ≤ cL o l∧(cL o l=s.2.1→Lx s.1 o))) (fun s=>os.length - s.2.2.2.toNat) ⟨0,rfl,Nat.zero_le _,fun _ o ho=>by simp at ho,fun h=>by cases h⟩ (by simp only; omega) ?_
 rintro ⟨best,mv,fd,u⟩ k ⟨i,hu,hi,hn,hy⟩ hk
 simp only at hu hn hy
 subst hu
 by_cases hlt:i < os.length
 ·have hO := (o2 _).1 (List.getElem_mem hlt)
  have hlen:=hO.len
  have hR:=Av os[i] (by omega) hl
  have hw:w64 ((i:Int) + 1)=((i + 1:Nat):Int):=by rw [Tl (by omega) (by omega)]; omega
  have hdec:os.length - (i + 1) < os.length - i:=by omega
  refine Yes.jn (Qr (decide_eq_true (by omega)) ?_)
  -- it stays as it is
  have stay:(fd=false→Ti ≤ cL os[i] l)→(fd=true→mv ≤ cL os[i] l∧(cL os[i] l=mv→Lx best os[i]))→Yes (k (best,mv,fd,w64 ((i:Int) + 1))) _:=fun a1 a2=>by
   rw [hw]
   refine hk _ ⟨i + 1,rfl,hlt,fun hf o ho=>?_,fun hf=>⟨(hy hf).1,(hy hf).2.1,(hy hf).2.2.1,fun o ho=>?_⟩⟩ hdec
   ·rw [Kl hlt] at ho
    rcases List.mem_append.1 ho with ho | ho
    ·exact hn hf o ho
    ·rw [List.mem_singleton.1 ho]; exact a1 hf
   ·rw [Kl hlt] at ho
    rcases List.mem_append.1 ho with ho | ho
    ·exact (hy hf).2.2.2 o ho
    ·rw [List.mem_singleton.1 ho]; exact a2 hf
  have take:cL os[i] l < Ti→(fd=true→∀ o ∈ os.take i,cL os[i] l ≤ cL o l∧(cL o l=cL os[i] l→Lx os[i] o))→Yes (k (os[i],cL os[i] l,true,w64 ((i:Int) + 1))) _:=fun a1 a2=>by
   rw [hw]
   refine hk _ ⟨i + 1,rfl,hlt,fun hf=>(by cases hf),fun _=>⟨hO,rfl,a1,fun o ho=>?_⟩⟩ hdec
   rw [Kl hlt] at ho
   rcases List.mem_append.1 ho with ho | ho
   ·cases hf : fd with
    | true=>exact a2 hf o ho
    | false=>
     have:=hn hf o ho
     exact ⟨(show cL os[i] l ≤ cL o l by omega),fun (h:cL o l=cL os[i] l)=>by omega⟩
   ·rw [List.mem_singleton.1 ho]; exact ⟨Int.le_refl _,fun _=>Lx.refl _⟩
  refine Yes.bind (Gj _ (Wu hlt) (Gj _ (s22 os[i] big (Sa _ (by omega)) (by omega) hl) ?_))
  by_cases hdeep:(rf os[i] l).2.2=os[i].length
  ·have hlt2 := hR.all.2 hdeep
   have hmv:=hR.mv hlt2
   have hde:((rf os[i] l).2.2 == (os[i].length:Int))=true:=beq_iff_eq.2 hdeep
   cases hf:fd with
   | false=>
    refine Gj true (by rw [Wu hlt,Option.bind_some,hde]; rfl) (Qr rfl (Gj _ (Wu hlt) (Yes.some ?_)))
    show Yes (k (os[i],(rf os[i] l).2.1,true,w64 ((i:Int) + 1))) _
    rw [hmv]
    exact take hlt2 fun h=>by rw [hf] at h; cases h
   | true=>
    obtain ⟨b1,b2,b3,b4⟩:=hy hf
    have hlb:os[i].length=best.length:=by rw [hlen,b1.len]
    by_cases h1:cL os[i] l < mv
    ·refine Gj true (by rw [Wu hlt, Option.bind_some, hde, hmv, decide_eq_true h1]; rfl) (Qr rfl (Gj _ (Wu hlt) (Yes.some ?_)))
     show Yes (k (os[i],(rf os[i] l).2.1,true,w64 ((i:Int) + 1))) _
     rw [hmv]
     exact take hlt2 fun _ o ho=>by have:=(b4 o ho).1; exact ⟨by omega,fun h=>by omega⟩
    ·by_cases h2 : cL os[i] l = mv
     ·by_cases h5 : Lx best os[i]
      ·refine Gj false (by rw [Wu hlt, Option.bind_some, hde, hmv, decide_eq_false h1, beq_iff_eq.2 h2, Option.bind_some, s69 hlb (by omega), Option.bind_some, decide_eq_false (fun h => h h5)]; rfl) (Tw rfl (Yes.some ?_))
       have:=stay (fun h=>by rw [hf] at h; cases h) (fun _=>⟨by omega,fun _=>h5⟩)
       rw [hf] at this; exact this
      ·refine Gj true (by rw [Wu hlt, Option.bind_some, hde, hmv, decide_eq_false h1, beq_iff_eq.2 h2, Option.bind_some, s69 hlb (by omega), Option.bind_some, decide_eq_true h5]; rfl) (Qr rfl (Gj _ (Wu hlt) (Yes.some ?_)))
       show Yes (k (os[i],(rf os[i] l).2.1,true,w64 ((i:Int) + 1))) _
       rw [hmv]
       refine take hlt2 fun _ o ho=>?_
       have h6:=b4 o ho
       refine ⟨by omega,fun h=>?_⟩
       rcases Lx.total hlb with h7 | h7
       ·exact h7.trans (h6.2 (by omega)) hlb
       ·exact absurd h7 h5
     ·refine Gj false (by rw [Wu hlt, Option.bind_some, hde, hmv, decide_eq_false h1, beq_eq_false_iff_ne.2 h2]; rfl) (Tw rfl (Yes.some ?_))
      have:=stay (fun h=>by rw [hf] at h; cases h) (fun _=>⟨by omega,fun h=>absurd h h2⟩)
      rw [hf] at this; exact this
  ·have hge:Ti ≤ cL os[i] l:=by
    have:¬ cL os[i] l < Ti:=fun h=>hdeep (hR.all.1 h)
    omega
   refine Gj false (by rw [Wu hlt,Option.bind_some,beq_eq_false_iff_ne.2 hdeep]; rfl) (Tw rfl (Yes.some ?_))
   exact stay (fun _=>hge) (fun hf=>by have:=(hy hf).2.2.1; exact ⟨by omega,fun h=>by omega⟩)
 ·have hi' : i = os.length := by omega
  subst hi'
  rw [List.take_length] at hn hy
  refine Yes.jn (Tw (decide_eq_false (by omega)) (Yes.some ⟨fun hf=>?_,fun hf o ho=>hn hf o ((o2 o).2 ho)⟩))
  obtain ⟨b1,b2,b3,b4⟩:=hy hf
  exact ⟨b1,b2,b3,fun o' ho'=>(b4 o' ((o2 o').2 ho')).1,fun o' ho' hm=>(b4 o' ((o2 o').2 ho')).2 hm⟩
end
theorem s24 (gs:List (List Int)) (hg:gs.length ≤ 12) (h:∀ g ∈ gs,g.length ≤ 1000):f24 gs=some gs:=by
 refine Yes.eq ?_
 unfold f24
 refine Yes.bind (Yes.mono (Q':=fun r=>r=gs) ?_ fun r hr=>by subst hr; exact Yes.some rfl)
 refine Yes.upto gs.length (by omega) (fun i r=>r=gs.take i) (by simp) (fun i r k hi hI hk=>?_) (fun r k hI=>?_)
 ·subst hI
  refine Yes.jn (Qr (decide_eq_true (by omega)) (Yes.bind (Yes.bind (Yes.idx rfl hi (Gj _ (s16 gs[i] (h _ (List.getElem_mem hi))) (Yes.bind (Yes.apnd (by simp; omega) (by simp; omega) (Yes.some (hk _ ?_)))))))))
  rw [Kl hi]
 ·subst hI
  exact Yes.jn (Tw (decide_eq_false (by simp)) (Yes.some (by rw [List.take_length])))
section
variable {l:BoxLoom} {gs:List (List Int)}
end
end Go.Proofs.Ytmpjooneiaiffaa
/- What is known of the chapter, by running the program: all but Groups runs in the kernel. -/
set_option maxRecDepth 8000
namespace Go.Proofs.Ytmpjooneiaiffaa
open Go.RowKit
open Classical

def k14 (F:BoxLoom→List (List Int)→Option (List Int × Int × Int)) (G:BoxLoom→Option (List Int × Int)):Option Bool:=
 (f48).bind fun y2=>
 (f49 ((0:Int)) ((0:Int))).bind fun y4=>
 (f49 ((0:Int)) ((1:Int))).bind fun y6=>
 (f40 y2 (([y4,y6]:List Gf))).bind fun y9=>
 (f48).bind fun pL=>
 (G pL).bind fun tB=>
 (f48).bind fun qL=>
 (f17 qL (([(3:Int),(7:Int),(5:Int)]:List Int))).bind fun i7=>
 (f48).bind fun rL=>
 (f17 rL (([(3:Int),(5:Int)]:List Int))).bind fun r8=>
 (f48).bind fun tL=>
 (F tL (([([(7:Int),(3:Int)]:List Int),([(5:Int)]:List Int)]:List (List Int)))).bind fun m7=>
 (f48).bind fun uL=>
 (f49 ((0:Int)) ((0:Int))).bind fun tI=>
 (f49 ((0:Int)) ((0:Int))).bind fun uI=>
 (f29 uL (([tI,uI]:List Gf))).bind fun a9=>
 (f48).bind fun y43=>
 (f49 ((0:Int)) ((0:Int))).bind fun vI=>
 (f49 ((0:Int)) ((0:Int))).bind fun yI=>
 (f49 ((0:Int)) ((0:Int))).bind fun zI=>
 (f49 ((0:Int)) ((0:Int))).bind fun eJ=>
 (f30 y43 (([vI,yI,zI,eJ]:List Gf))).bind fun x6=>
 (f48).bind fun y56=>
 (f49 ((0:Int)) ((0:Int))).bind fun gJ=>
 (f36 y56 (([gJ]:List Gf))).bind fun d9=>
 jn (σ:=Unit) (fun _=>
  jn (σ:=Unit) (fun _=>
   Option.bind (α:=Bool) (
    (f19 (m7.1) (([(3:Int),(7:Int),(5:Int)]:List Int))).bind fun sD=>
    bif sD then
     bif (m7.2.1 == (2 : Int)) then
      (idx (a9.1) (0:Int)).bind fun tD=>
      (f42 ((0:Int)) ((1:Int))).bind fun dB=>
      bif (decide (tD = dB)) then
       bif (x6.1 == (2 : Int)) then
        bif (x6.2.1 == (3 : Int)) then
         some ((d9.1 == (2:Int)))
        else
         none
       else
        none
      else
       none
     else
      none
    else
     none
    ) fun jD=>
   some (jD)
   ) fun iJ=>
  Option.bind (α:=Bool) (
   (f19 (y9.1) (([(3:Int),(7:Int)]:List Int))).bind fun eD=>
   bif (!eD) then
    none
   else
    bif (y9.2.2.1 != (1 : Int)) then
     none
    else
     (idx ((y9.2.1).Shuttles) (2:Int)).bind fun iD=>
     bif ((iD).Side != (0 : Int)) then
      none
     else
      (f19 ((y9.2.1).At) (([(0:Int),(1:Int)]:List Int))).bind fun mC=>
      bif (!mC) then
       none
      else
       (f19 (tB.1) (([(3:Int),(5:Int)]:List Int))).bind fun rC=>
       bif (!rC) then
        none
       else
        (idx (i7.1) (2:Int)).bind fun xD=>
        (f49 ((1:Int)) ((1:Int))).bind fun iB=>
        bif (!(decide (xD = iB))) then
         none
        else
         bif (i7.2.1 != (2 : Int)) then
          none
         else
          some ((r8.2.2.1 != (1:Int)))
   ) fun u9=>
  bif u9 then
   some (false)
  else
   iJ ()
  ) fun vL=>
 Option.bind (α:=Bool) (
  bif (y9.2.2.2.2 != (0 : Int)) then
   none
  else
   bif (tB.2 != (0 : Int)) then
    none
   else
    bif (i7.2.2.2 != (0 : Int)) then
     none
    else
     bif (r8.2.2.2 != (9 : Int)) then
      none
     else
      bif (m7.2.2 != (0 : Int)) then
       none
      else
       bif (a9.2.2 != (0 : Int)) then
        none
       else
        bif (x6.2.2 != (0 : Int)) then
         none
        else
         bif (d9.2 != (0 : Int)) then
          none
         else
          bif ((((y9.2.1).Shuttles).length : Int) != (3 : Int)) then
           none
          else
           bif (((i7.1).length : Int) != (3 : Int)) then
            none
           else
            some ((((a9.1).length:Int) != (3:Int)))
  ) fun yA=>
 bif yA then
  some (false)
 else
  vL ()
theorem f14_k:f14=k14 f25 f43:=rfl
def l14:BoxLoom:=f48.getD ⟨[],[],[]⟩
theorem k14_bind (F:BoxLoom→List (List Int)→Option (List Int × Int × Int)) (G:BoxLoom→Option (List Int × Int)):k14 F G=(G l14).bind fun c=>(F l14 [[7,3],[5]]).bind fun o=>k14 (fun _ _=>some o) fun _=>some c:=by kernel_rfl
theorem k14_is:k14 (fun _ _=>some ([3,7,5],2,0)) (fun _=>some ([3,5],0))=some true:=by kernel_rfl
theorem l14_chk:f20 l14=some 0:=by kernel_rfl
theorem l14_sml:Sml l14:=by unfold Sml; decide
theorem l14_ref:f27 l14 [[7,3],[5]]=some ([3,7,5],2,true):=by kernel_rfl
theorem Nk:LOk l14:=by
 have h:=s20 l14 l14_sml
 rw [l14_chk] at h
 exact chk0.1 (Option.some.inj h).symm
theorem l14_47:f47 l14=some [3,5]:=by kernel_rfl
theorem l14_cols:cols l14=[3,5]:=Option.some.inj ((s47 Nk).symm.trans l14_47)
theorem known14:f14=some true:=by
 have h3:∀ g ∈ ([[7,3],[5]]:List (List Int)),g.length ≤ 3:=fun g hg=>by simp at hg; rcases hg with rfl | rfl <;> simp
 have hc:∀ g ∈ ([[7,3],[5]]:List (List Int)),g.all (btw 0 9)=true:=fun g hg=>by simp at hg; rcases hg with rfl | rfl <;> simp [btw]
 obtain ⟨m,hm,m1,_⟩:=s27 Nk (gs:=[[7,3],[5]]) (by simp) h3 (by simp)
 rw [l14_ref] at hm
 cases hm
 have hB:=m1 rfl
 obtain ⟨r,hr,hr'⟩:=grp Nk (gs:=[[7,3],[5]]) (by simp) h3 hc (by simp)
 rcases hr' with ⟨a1,rfl⟩ | ⟨o,M,rfl,a2⟩
 ·have:=a1 _ hB.os; have:=hB.mv; have:=hB.lt; omega
 ·obtain ⟨e1, e2⟩ := a2.one hB
  rw [f14_k,k14_bind,s43 Nk,Option.bind_some,hr,Option.bind_some,e1,e2,l14_cols]
  exact k14_is
end Go.Proofs.Ytmpjooneiaiffaa
/- BoxGroups: the plain law. -/
set_option maxRecDepth 8000
namespace Go.Proofs.Ytmpjooneiaiffaa
open Go.RowKit
open Classical
section
variable {l:BoxLoom} {gs:List (List Int)}
end
end Go.Proofs.Ytmpjooneiaiffaa
