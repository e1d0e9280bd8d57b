/- What is known of the chapter, by running the program: all but Groups runs in the kernel. -/
import Derived.Test.YtmpjooneiaiffaaLawGG
set_option maxRecDepth 8000
namespace Go.Proofs.Ytmpjooneiaiffaa
open Go.RowKit
open Classical

def k14 (F:BoxLoom→List (List Int)→Option (List Int × Int × Int)) (G:BoxLoom→Option (List Int × Int)):Option Bool:=
 (f48).bind fun y2=>
 (f49 ((0:Int)) ((0:Int))).bind fun y4=>
 (f49 ((0:Int)) ((1:Int))).bind fun y6=>
 (f40 y2 (([y4,y6]:List Ge))).bind fun y9=>
 (f48).bind fun pL=>
 (G pL).bind fun tB=>
 (f48).bind fun qL=>
 (f17 qL (([(3:Int),(7:Int),(5:Int)]:List Int))).bind fun i7=>
 (f48).bind fun rL=>
 (f17 rL (([(3:Int),(5:Int)]:List Int))).bind fun r8=>
 (f48).bind fun tL=>
 (F tL (([([(7:Int),(3:Int)]:List Int),([(5:Int)]:List Int)]:List (List Int)))).bind fun m7=>
 (f48).bind fun uL=>
 (f49 ((0:Int)) ((0:Int))).bind fun tI=>
 (f49 ((0:Int)) ((0:Int))).bind fun uI=>
 (f29 uL (([tI,uI]:List Ge))).bind fun a9=>
 (f48).bind fun y43=>
 (f49 ((0:Int)) ((0:Int))).bind fun vI=>
 (f49 ((0:Int)) ((0:Int))).bind fun yI=>
 (f49 ((0:Int)) ((0:Int))).bind fun zI=>
 (f49 ((0:Int)) ((0:Int))).bind fun eJ=>
 (f30 y43 (([vI,yI,zI,eJ]:List Ge))).bind fun x6=>
 (f48).bind fun y56=>
 (f49 ((0:Int)) ((0:Int))).bind fun gJ=>
 (f36 y56 (([gJ]:List Ge))).bind fun d9=>
 jn (σ:=Unit) (fun _=>
  jn (σ:=Unit) (fun _=>
   Option.bind (α:=Bool) (
    (f19 (m7.1) (([(3:Int),(7:Int),(5:Int)]:List Int))).bind fun sD=>
    bif sD then
     bif (m7.2.1 == (2 : Int)) then
      (idx (a9.1) (0:Int)).bind fun tD=>
      (f42 ((0:Int)) ((1:Int))).bind fun dB=>
      bif (decide (tD = dB)) then
       bif (x6.1 == (2 : Int)) then
        bif (x6.2.1 == (3 : Int)) then
         some ((d9.1 == (2:Int)))
        else
         none
       else
        none
      else
       none
     else
      none
    else
     none
    ) fun jD=>
   some (jD)
   ) fun iJ=>
  Option.bind (α:=Bool) (
   (f19 (y9.1) (([(3:Int),(7:Int)]:List Int))).bind fun eD=>
   bif (!eD) then
    none
   else
    bif (y9.2.2.1 != (1 : Int)) then
     none
    else
     (idx ((y9.2.1).Shuttles) (2:Int)).bind fun iD=>
     bif ((iD).Side != (0 : Int)) then
      none
     else
      (f19 ((y9.2.1).At) (([(0:Int),(1:Int)]:List Int))).bind fun mC=>
      bif (!mC) then
       none
      else
       (f19 (tB.1) (([(3:Int),(5:Int)]:List Int))).bind fun rC=>
       bif (!rC) then
        none
       else
        (idx (i7.1) (2:Int)).bind fun xD=>
        (f49 ((1:Int)) ((1:Int))).bind fun iB=>
        bif (!(decide (xD = iB))) then
         none
        else
         bif (i7.2.1 != (2 : Int)) then
          none
         else
          some ((r8.2.2.1 != (1:Int)))
   ) fun u9=>
  bif u9 then
   some (false)
  else
   iJ ()
  ) fun vL=>
 Option.bind (α:=Bool) (
  bif (y9.2.2.2.2 != (0 : Int)) then
   none
  else
   bif (tB.2 != (0 : Int)) then
    none
   else
    bif (i7.2.2.2 != (0 : Int)) then
     none
    else
     bif (r8.2.2.2 != (9 : Int)) then
      none
     else
      bif (m7.2.2 != (0 : Int)) then
       none
      else
       bif (a9.2.2 != (0 : Int)) then
        none
       else
        bif (x6.2.2 != (0 : Int)) then
         none
        else
         bif (d9.2 != (0 : Int)) then
          none
         else
          bif ((((y9.2.1).Shuttles).length : Int) != (3 : Int)) then
           none
          else
           bif (((i7.1).length : Int) != (3 : Int)) then
            none
           else
            some ((((a9.1).length:Int) != (3:Int)))
  ) fun yA=>
 bif yA then
  some (false)
 else
  vL ()
theorem f14_k:f14=k14 f25 f43:=rfl
def l14:BoxLoom:=f48.getD ⟨[],[],[]⟩
theorem k14_bind (F:BoxLoom→List (List Int)→Option (List Int × Int × Int)) (G:BoxLoom→Option (List Int × Int)):k14 F G=(G l14).bind fun c=>(F l14 [[7,3],[5]]).bind fun o=>k14 (fun _ _=>some o) fun _=>some c:=by kernel_rfl
theorem k14_is:k14 (fun _ _=>some ([3,7,5],2,0)) (fun _=>some ([3,5],0))=some true:=by kernel_rfl
theorem l14_chk:f20 l14=some 0:=by kernel_rfl
theorem l14_sml:Sml l14:=by unfold Sml; decide
theorem l14_ref:f27 l14 [[7,3],[5]]=some ([3,7,5],2,true):=by kernel_rfl
theorem l14_ok:LOk l14:=by
 have h:=s20 l14 l14_sml
 rw [l14_chk] at h
 exact chk0.1 (Option.some.inj h).symm
theorem l14_47:f47 l14=some [3,5]:=by kernel_rfl
theorem l14_cols:cols l14=[3,5]:=Option.some.inj ((s47 l14_ok).symm.trans l14_47)
theorem known14:f14=some true:=by
 have h3:∀ g ∈ ([[7,3],[5]]:List (List Int)),g.length ≤ 3:=fun g hg=>by simp at hg; rcases hg with rfl | rfl <;> simp
 have hc:∀ g ∈ ([[7,3],[5]]:List (List Int)),g.all (btw 0 9)=true:=fun g hg=>by simp at hg; rcases hg with rfl | rfl <;> simp [btw]
 obtain ⟨m,hm,m1,_⟩:=s27 l14_ok (gs:=[[7,3],[5]]) (by simp) h3 (by simp)
 rw [l14_ref] at hm
 cases hm
 have hB:=m1 rfl
 obtain ⟨r,hr,hr'⟩:=grp l14_ok (gs:=[[7,3],[5]]) (by simp) h3 hc (by simp)
 rcases hr' with ⟨a1,rfl⟩ | ⟨o,M,rfl,a2⟩
 ·have:=a1 _ hB.os; have:=hB.mv; have:=hB.lt; omega
 ·obtain ⟨e1, e2⟩ := a2.one hB
  rw [f14_k,k14_bind,s43 l14_ok,Option.bind_some,hr,Option.bind_some,e1,e2,l14_cols]
  exact k14_is
end Go.Proofs.Ytmpjooneiaiffaa
/- BoxGroups: the plain law. -/
set_option maxRecDepth 8000
namespace Go.Proofs.Ytmpjooneiaiffaa
open Go.RowKit
open Classical
section
variable {l:BoxLoom} {gs:List (List Int)}
theorem s4 (l:BoxLoom) (gs:List (List Int)):f4 l gs=some true:=by
  refine Yes.eq ?_
  unfold f4
  have known:Yes (f14.bind fun y=>some y) (fun r=>r=true):=⟨true,by rw [known14]; rfl,rfl⟩
  refine Yes.jn (Yes.bind (Yes.mono (Q':=fun b=>b=false→Sml l∧gs.length ≤ 12) ?_ fun b hb=>?_))
  · refine Gp _ (s13 l) (Yes.cond (fun hc => Yes.some fun h => by cases h) (fun hc => Yes.some fun h => ⟨Classical.not_not.1 (of_decide_eq_false hc), ?_⟩))
    have:=of_decide_eq_false h; omega
  refine Yes.cond (fun _=>known) (fun hcc=>?_)
  obtain ⟨hs,h12⟩:=hb hcc
  refine Yes.jn ?_
  refine Yes.lp (fun s=>∃ i:Nat,s.2.2=i∧i ≤ gs.length∧(∀ g ∈ gs.take i,g.length ≤ 12)∧s.1=((gs.take i).flatten.length:Int)∧s.2.1=(decide ((gs.length:Int) > 8) || (gs.take i).any fun g=>decide ((g.length:Int) > 3))) (fun s=>gs.length - s.2.2.toNat) ⟨0,rfl,Nat.zero_le _,fun g hg=>by simp at hg,by simp,by simp⟩ (by simp only; omega) ?_
  rintro ⟨al,lo,u⟩ k ⟨i,hu,hi,h1,h2,h3⟩ hk
  simp only at hu h2 h3
  subst hu; subst h2; subst h3
  by_cases hlt:i < gs.length
  · refine Yes.jn (Qw (decide_eq_true (by omega)) (Yes.jn (Gp _ (qidx hlt) (Yes.cond (fun _ => known) (fun h12' => ?_)))))
    have hgl:gs[i].length ≤ 12:=by have:=of_decide_eq_false h12'; omega
    have hfb:(gs.take i).flatten.length ≤ 144:=by
      have a1:=flat_le (n:=12) h1
      have a2:(gs.take i).length ≤ 12:=by rw [List.length_take]; omega
      exact Nat.le_trans a1 (Nat.mul_le_mul_right 12 a2)
    have hw:w64 ((i:Int) + 1)=((i + 1:Nat):Int):=by rw [Wi (by omega) (by omega)]; omega
    have hsum:w64 (((gs.take i).flatten.length:Int) + (gs[i].length:Int))=((gs.take (i + 1)).flatten.length:Int):=by
      rw [Wi (by omega) (by omega),flat_take hlt,List.length_append]; omega
    have hany:((gs.take (i + 1)).any fun g=>decide ((g.length:Int) > 3))=(((gs.take i).any fun g=>decide ((g.length:Int) > 3)) || decide ((gs[i].length:Int) > 3)):=by
      rw [take_succ hlt,List.any_append]; simp
    have hdec:gs.length - (i + 1) < gs.length - i:=by omega
    have go:∀ b:Bool,b=(decide ((gs.length:Int) > 8) || (gs.take (i + 1)).any fun g=>decide ((g.length:Int) > 3))→Yes (k (w64 (((gs.take i).flatten.length:Int) + (gs[i].length:Int)),b,w64 ((i:Int) + 1))) _:=fun b hb=>by
      rw [hw,hsum]
      refine hk _ ⟨i + 1,rfl,hlt,fun g hg=>?_,rfl,hb⟩ hdec
      rw [take_succ hlt] at hg
      rcases List.mem_append.1 hg with hg | hg
      · exact h1 g hg
      · rw [List.mem_singleton.1 hg]; exact hgl
    refine Yes.jn (Gp _ (qidx hlt) (Yes.cond (fun hc=>go true ?_) (fun hc=>Gp _ (qidx hlt) (go _ ?_))))
    · rw [hany,← Bool.or_assoc,hc]; rfl
    · rw [hany,← Bool.or_assoc,hc]; rfl
  have hi':i=gs.length:=by omega
  subst hi'
  rw [List.take_length] at h1 ⊢
  refine Yes.jn (Qi (decide_eq_false (by omega)) ?_)
  have hlong:(decide ((gs.length:Int) > 8) || gs.any fun g=>decide ((g.length:Int) > 3))=decide (long gs):=by
    by_cases h8:gs.length > 8
    · rw [decide_eq_true (show (gs.length:Int) > 8 by omega),decide_eq_true (show long gs from .inl h8)]; rfl
    · rw [decide_eq_false (show ¬ (gs.length : Int) > 8 by omega), Bool.false_or]
      by_cases hL:long gs
      · rw [decide_eq_true hL,(long_any (by omega)).1 hL]
      · rw [decide_eq_false hL]
        cases hh:gs.any fun g=>decide ((g.length:Int) > 3) with
        | false=>rfl
        | true=>exact absurd ((long_any (by omega)).2 hh) hL
  rw [hlong]
  refine Yes.jn (Yes.bind (Yes.mono (Q':=fun b=>b=false→long gs ∨ gs.flatten.length ≤ 4) ?_ fun b hb4=>?_))
  · refine Yes.cond (fun hc => Yes.some fun h => .inl ?_) (fun hc => Yes.some fun _ => .inr ?_)
    · simpa using h
    · have:=of_decide_eq_false hc; omega
  refine Yes.cond (fun _=>known) (fun hcb=>?_)
  have hlf:=hb4 hcb
  -- the last lines,for an error
  have fin:∀ {o:List Int × Int × Int} {e:Int},o=([],0,e)→Yes (Option.bind (α:=Bool) (bif (o.2.2 == e) then bif (((o.1).length:Int) == (0:Int)) then bif (o.2.1 == (0:Int)) then (f14).bind fun dH=>some dH else some false else some false else some false) fun aD=>some aD) (fun r=>r=true):=fun {o e} ho=>by
    subst ho
    exact Yes.bind (Qw (by simp) (Qw rfl (Qw rfl ⟨true,by rw [known14]; rfl,true,rfl,rfl⟩)))
  have first:∀ {X:Option Bool},Yes X (fun r=>r=true)→Yes (Option.bind (α:=Bool) ((f18 l l).bind fun uD=>bif (!uD) then some true else (f26 gs gs).bind fun iH=>some (!iH)) fun iA=>bif iA then some false else X) (fun r=>r=true):=fun {X} hX=>by
    exact Yes.bind (Gp _ (s18r l hs) (Qi rfl (Gp true (s26 gs h12 fun g hg=>by have:=h1 g hg; omega) (Yes.some (Qi rfl hX)))))
  have h24:=s24 gs h12 fun g hg=>by have:=h1 g hg; omega
  refine Yes.jn (Gp _ (s15 l hs) (Gp _ h24 ?_))
  -- the error by the colours
  have scan : ∀ {X : Int → Option Bool} {w : Int}, (w = 0 → (∀ g ∈ gs, g.all (btw 0 9) = true) → Yes (X 0) (fun r => r = true)) → (w = 0 → (¬ ∀ g ∈ gs, g.all (btw 0 9) = true) → Yes (X 2) (fun r => r = true)) → (w ≠ 0 → Yes (X w) (fun r => r = true)) →
      Yes (Option.bind (α:=Int) (lp (σ:=Int × Int) (fun mM (k8,x5)=>
       jn (σ:=Unit) (fun _=>
        Option.bind (α:=Int) (
         (idx gs x5).bind fun nM=>
         (f21 nM).bind fun yJ=>
         bif (!yJ) then
          some ((2:Int))
         else
          some (k8)
         ) fun qC=>
        mM (qC,(w64 (x5 + (1:Int))))
        ) fun oM=>
       Option.bind (α:=Bool) (
        bif (decide (x5 < ((gs).length : Int))) then
         some ((k8 == (0:Int)))
        else
         some (false)
        ) fun k9=>
       bif k9 then
        oM ()
       else
        some (k8)
       ) big (w,(0:Int))) X) (fun r=>r=true):=fun {X w} x1 x2 x3=>by
    by_cases hw:w=0
    · subst hw
      refine Yes.bind (Yes.mono (Q':=fun r=>((∀ g ∈ gs,g.all (btw 0 9)=true)∧r=0) ∨ ((¬ ∀ g ∈ gs,g.all (btw 0 9)=true)∧r=2)) ?_ fun r hr=>?_)
      · refine Yes.lp (fun s => ∃ i : Nat, s.2 = i ∧ i ≤ gs.length ∧ ((s.1 = 0 ∧ ∀ g ∈ gs.take i, g.all (btw 0 9) = true) ∨ (s.1 = 2 ∧ ¬ ∀ g ∈ gs, g.all (btw 0 9) = true))) (fun s => gs.length - s.2.toNat) ⟨0, rfl, Nat.zero_le _, .inl ⟨rfl, fun g hg => by simp at hg⟩⟩ (by simp only; omega) ?_
        rintro ⟨v,u⟩ k2 ⟨i,hu,hi2,hI⟩ hk2
        simp only at hu hI
        subst hu
        rcases hI with ⟨rfl,hI⟩ | ⟨rfl,hI⟩
        · by_cases hlt2 : i < gs.length
          · refine Yes.jn (Gp true (by rw [decide_eq_true (by omega)]; rfl) (Qw rfl ?_))
            have hgl:=h1 _ (List.getElem_mem hlt2)
            have hw2:w64 ((i:Int) + 1)=((i + 1:Nat):Int):=by rw [Wi (by omega) (by omega)]; omega
            have hdec:gs.length - (i + 1) < gs.length - i:=by omega
            refine Yes.bind (Gp _ (qidx hlt2) (Gp _ (s21 gs[i] (by omega)) ?_))
            cases hg:gs[i].all (btw 0 9) with
            | false=>
              refine Qw rfl (Yes.some ?_)
              show Yes (k2 (2,w64 ((i:Int) + 1))) _
              rw [hw2]
              exact hk2 _ ⟨i + 1,rfl,hlt2,.inr ⟨rfl,fun h=>by have:=h _ (List.getElem_mem hlt2); rw [hg] at this; cases this⟩⟩ hdec
            | true=>
              refine Qi rfl (Yes.some ?_)
              show Yes (k2 (0,w64 ((i:Int) + 1))) _
              rw [hw2]
              refine hk2 _ ⟨i + 1,rfl,hlt2,.inl ⟨rfl,fun g hgm=>?_⟩⟩ hdec
              rw [take_succ hlt2] at hgm
              rcases List.mem_append.1 hgm with hgm | hgm
              · exact hI g hgm
              · rw [List.mem_singleton.1 hgm]; exact hg
          · have hil : i = gs.length := by omega
            rw [hil,List.take_length] at hI
            exact Yes.jn (Gp false (by rw [decide_eq_false (by omega)]; rfl) (Qi rfl (Yes.some (.inl ⟨hI,rfl⟩))))
        · refine Yes.jn (Gp false ?_ (Qi rfl (Yes.some (.inr ⟨hI, rfl⟩))))
          cases decide ((i:Int) < (gs.length:Int)) <;> rfl
      · rcases hr with ⟨h5, rfl⟩ | ⟨h5, rfl⟩
        · exact x1 rfl h5
        · exact x2 rfl h5
    · refine Yes.bind (Yes.mono (Q' := fun r => r = w) ?_ fun r hr => by subst hr; exact x3 hw)
      refine Yes.lp (fun s=>s=(w,0)) (fun _=>0) rfl (by simp) ?_
      rintro s k2 rfl hk2
      refine Yes.jn (Gp false ?_ (Qi rfl (Yes.some rfl)))
      show (bif decide ((0:Int) < (gs.length:Int)) then some (w == 0) else some false)=some false
      rw [show (w == 0)=false from beq_eq_false_iff_ne.2 hw]
      cases decide ((0:Int) < (gs.length:Int)) <;> rfl
  by_cases he:chk l=0
  · have hl := chk0.1 he
    by_cases hL:long gs
    · refine Gp _ (s25l hl h12 hL) (Yes.jn (first (Gp _ (s20 l hs) (Gp 5 (by rw [he,decide_eq_true hL]; rfl) (scan (fun h=>by cases h) (fun h=>by cases h) (fun _=>Yes.jn (Qi rfl (fin rfl))))))))
    · have h8:gs.length ≤ 8:=by
        have:¬ gs.length > 8:=fun h=>hL (.inl h)
        omega
      have h3:∀ g ∈ gs,g.length ≤ 3:=fun g hgm=>by
        have:¬ g.length > 3:=fun h'=>hL (.inr ⟨g,hgm,h'⟩)
        omega
      have h4:gs.flatten.length ≤ 4:=hlf.resolve_left hL
      have hsd:(Option.bind (α:=Bool) (bif (chk l == (0:Int)) then some (decide (long gs)) else some false) fun bA=>bif bA then some (5:Int) else some (chk l))=some 0:=by
        rw [he,decide_eq_false hL]; rfl
      by_cases hc:∀ g ∈ gs,g.all (btw 0 9)=true
      · obtain ⟨r, hr, hr'⟩ := grp hl h8 h3 hc (by omega)
        refine Gp r hr (Yes.jn (first (Gp _ (s20 l hs) (Gp 0 hsd (scan (fun _ _=>?_) (fun _ h=>absurd hc h) (fun h=>absurd rfl h))))))
        obtain ⟨m,hm,m1,m2⟩:=s27 hl h8 h3 h4
        refine Yes.jn (Qw rfl (Gp m hm (Yes.jn ?_)))
        cases hf:m.2.2 with
        | true=>
          have hB:=m1 hf
          rcases hr' with ⟨a1,rfl⟩ | ⟨o,M,rfl,a2⟩
          · have:=a1 _ hB.os; have:=hB.mv; have:=hB.lt; omega
          · obtain ⟨e1, e2⟩ := a2.one hB
            refine Qw rfl (Yes.bind (Qw rfl (Gp true (by rw [e1,s19 _ _ (by rw [hB.os.len]; omega)]; simp) (Qw rfl (Qw (beq_iff_eq.2 e2) ⟨true,by rw [known14]; rfl,true,rfl,rfl⟩)))))
        | false=>
          rcases hr' with ⟨a1,rfl⟩ | ⟨o,M,rfl,a2⟩
          · exact Qi rfl (fin rfl)
          · have:=m2 hf _ a2.os; have:=a2.mv; have:=a2.lt; omega
      · refine Gp _ (s25a hl h8 hL hc) (Yes.jn (first (Gp _ (s20 l hs) (Gp 0 hsd (scan (fun _ h=>absurd h hc) (fun _ _=>Yes.jn (Qi rfl (fin rfl))) (fun h=>absurd rfl h))))))
  · refine Gp _ (s25e hs he) (Yes.jn (first (Gp _ (s20 l hs) (Gp (chk l) (by rw [show (chk l == 0)=false from beq_eq_false_iff_ne.2 he]; rfl) (scan (fun h=>absurd h he) (fun h=>absurd h he) (fun h=>Yes.jn (Qi (beq_eq_false_iff_ne.2 h) (fin rfl))))))))
end
end Go.Proofs.Ytmpjooneiaiffaa
