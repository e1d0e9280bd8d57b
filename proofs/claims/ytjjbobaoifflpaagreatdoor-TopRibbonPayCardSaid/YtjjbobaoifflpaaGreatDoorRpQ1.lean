/- Laws of plain functions, part 1. -/
import Derived.Test.YtjjbobaoifflpaaGreatDoorRpA2
import Derived.Test.YtjjbobaoifflpaaGreatDoorShi
set_option maxRecDepth 8000
namespace Go.Proofs.YtjjbobaoifflpaaGreatDoor
open Go.RowKit
open Classical
open Go.Lib (compact compactUpTo keeps compact_all)
theorem J4 {α:Type} {Q:α→Prop} {c:Bool} {X Y:Option α} (hc:c=false) (h:Yes Y Q):Yes (bif c then X else Y) Q:=by rw [hc]; exact h
theorem Sz {α:Type} {Q:α→Prop} {c:Bool} {X Y:Option α} (hc:c=true) (h:Yes X Q):Yes (bif c then X else Y) Q:=by rw [hc]; exact h
theorem Wg {α β:Type} {Q:β→Prop} {x:Option α} {f:α→Option β} (a:α) (h:x=some a) (k:Yes (f a) Q):Yes (x.bind f) Q:=by rw [h]; exact k
theorem Cb {n:Int} (h1:-1000000000 ≤ n) (h2:n ≤ 1000000000):w64 n=n:=Qa (by omega) (by omega)
theorem Iw {n:Int} (h1:0 ≤ n) (h2:n ≤ 9223372036854775807):T3 n=n:=by
 unfold T3; rw [show IntKind.u64.wrap n=n % 18446744073709551616 from rfl]; omega
theorem Mf {a b:Int} (ha:0 ≤ a) (ha2:a ≤ 9223372036854775807) (hb:0 < b):Sk a b=some (a / b):=by
 unfold Sk
 rw [if_neg (by omega),Int.tdiv_eq_ediv_of_nonneg ha,Qa]
 ·have:=Int.ediv_nonneg ha (Int.le_of_lt hb); omega
 ·exact Int.le_trans (Int.ediv_le_self b ha) ha2
theorem M5 (a b:Int):Hb a b=min a b:=by unfold Hb; omega
def Kt (a b x:Int):Bool:=decide (a ≤ x∧x ≤ b)
theorem s78P (x a b:Int):f100 x a b=some (!Kt a b x):=by unfold f100 Kt; by_cases h1:x < a <;> by_cases h2:x > b <;> simp [h1,h2] <;> omega
theorem s68P (xs:List Int) (φ:Int→Option Bool) (p:Int→Bool) (hl:xs.length < 9223372036854775807) (h:∀ a ∈ xs,φ a=some (p a)):f99 xs φ=some (xs.any p):=
 Yes.eq (Yes.bind (Yes.mono (Yu xs φ p hl h) fun _ hr=>Yes.some (Jw hr)))
theorem s54P (a b:Int) (xs:List Int) (hl:xs.length < 9223372036854775807):f62 a b xs=some (xs.all (Kt a b)):=by
 unfold f62
 rw [s68P xs _ (fun x=>!Kt a b x) hl fun x _=>s78P x a b]
 simp [List.all_eq_not_any_not]
theorem Vi (a b x:Int):f62 a b [x]=some (Kt a b x):=by rw [s54P _ _ _ (by simp)]; simp
theorem s53P (xs:List Int) (hl:xs.length < 9223372036854775807):f61 xs=some (xs.all (Kt 0 1000)):=by
 unfold f61; rw [s54P _ _ _ hl]; rfl

def A7 (rs:List Gq) (i:Nat) (h:i < rs.length):Prop:=Kt 0 1000 rs[i].From=true∧Kt 0 10000 rs[i].Rate=true∧(i=0→rs[i].From=0)∧∀ _:0 < i,(rs[i - 1]'(by omega)).From < rs[i].From
def Yz (rs:List Gq):Prop:=∀ i (h:i < rs.length),A7 rs i h
def Ja (l:PayList):Prop:=Yz l.Rates∧(∀ x ∈ l.Extras,Kt 0 1000 x=true)∧0 < l.Rates.length∧Kt 0 1000 l.Fine=true∧Kt 0 1000 l.Cap=true
def V4 (l:PayList):Prop:=l.Rates.length > 6 ∨ l.Extras.length > 8
noncomputable def Uo (l:PayList):Int:=if V4 l then 5 else if Ja l then 0 else 2
theorem Qh {a b x:Int}:Kt a b x=true ↔ a ≤ x∧x ≤ b:=by simp [Kt]
theorem s52P (l:PayList) (hl:l.Rates.length ≤ 1000):f60 ⟨l⟩=some (decide (Yz l.Rates∧0 < l.Rates.length)):=by
 refine Yes.eq ?_
 unfold f60
 refine Yes.jn ?_
 show Yes (lp _ big ((0:Int),(0:Int),(0:Int))) _
 refine Yes.upto2 l.Rates.length (by omega) (fun i s t => (∀ j (h : j < l.Rates.length), j < i → A7 l.Rates j h) ∧ (i = 0 → s = 0 ∧ t = 0) ∧ ∀ (h : 0 < i) (h2 : i ≤ l.Rates.length), s = (l.Rates[i - 1]'(by omega)).From + 1 ∧ t = 1000)
  ⟨fun _ _ h=>absurd h (Nat.not_lt_zero _),fun _=>⟨rfl,rfl⟩,fun h=>absurd h (Nat.lt_irrefl _)⟩ (fun i s t k hi hI hk=>?_) (fun s t k hI=>?_)
 ·obtain ⟨hok, hz, hp⟩ := hI
  refine Sz (by simp; omega) (Yes.jn (Yes.bind (Yes.idx rfl hi (Yes.jn (Yes.bind ?_)))))
  have fin:A7 l.Rates i hi→Yes (k (w64 (l.Rates[i].From + 1),(1000:Int),w64 ((i:Int) + 1))) (fun r=>r=decide (Yz l.Rates∧0 < l.Rates.length)):=fun ho=>by
   have hb:=Qh.1 ho.1
   rw [Cb (n:=l.Rates[i].From + 1) (by omega) (by omega)]
   refine hk _ _ ⟨fun j hj hji=>?_,fun h=>absurd h (by omega),fun _ _=>⟨by simp,rfl⟩⟩
   rcases Nat.lt_succ_iff_lt_or_eq.1 hji with h | rfl
   ·exact hok j hj h
   ·exact ho
  have bad:¬ A7 l.Rates i hi→(false:Bool)=decide (Yz l.Rates∧0 < l.Rates.length):=fun hn=>by
   rw [eq_comm,decide_eq_false_iff_not]; exact fun h=>hn (h.1 i hi)
  rw [Vi]
  have hs:Kt s t l.Rates[i].From=true ↔ Kt 0 1000 l.Rates[i].From=true∧(i=0→l.Rates[i].From=0)∧∀ _:0 < i,(l.Rates[i - 1]'(by omega)).From < l.Rates[i].From:=by
   rw [Qh,Qh]
   rcases Nat.eq_zero_or_pos i with h0 | h0
   ·obtain ⟨rfl, rfl⟩ := hz h0
    constructor
    ·intro h; exact ⟨by omega,fun _=>by omega,fun h2=>absurd h2 (by omega)⟩
    ·intro h; have:=h.2.1 h0; omega
   ·obtain ⟨rfl, rfl⟩ := hp h0 (by omega)
    have hb:=Qh.1 (hok (i - 1) (by omega) (by omega)).1
    constructor
    ·intro h; exact ⟨by omega,fun h2=>absurd h2 (by omega),fun _=>by omega⟩
    ·intro h; have:=h.2.2 h0; omega
  refine Yes.bind (Yes.some (Yes.cond (fun h=>Yes.some (Sz rfl (Yes.some ?_))) fun h=>?_))
  ·refine bad fun ho => ?_
   have:Kt s t l.Rates[i].From=true:=hs.2 ⟨ho.1,ho.2.2⟩
   rw [this] at h; cases h
  ·have h1 : Kt s t l.Rates[i].From = true := by simpa using h
   obtain ⟨h2,h3⟩:=hs.1 h1
   rw [Vi]
   refine Yes.bind (Yes.some (Yes.some (Yes.cond (fun h4=>Yes.some ?_) fun h4=>fin ⟨h2,by simpa using h4,h3⟩)))
   refine bad fun ho=>?_
   rw [ho.2.1] at h4; cases h4
 ·refine J4 (by simp) (Yes.some ?_)
  rw [decide_eq_decide]
  exact ⟨fun h=>⟨fun i hi=>hI.1 i hi hi,by simpa using h⟩,fun h=>by have:=h.2; simp; omega⟩
theorem s15P (l:PayList) (h1:l.Rates.length ≤ 1000) (h2:l.Extras.length ≤ 1000):f26 l=some (Uo l):=by
 refine Yes.eq ?_
 unfold f26
 refine Yes.jn (Yes.bind (Yes.mono (Q':=fun r=>r=decide (V4 l)) ?_ fun r hr=>?_))
 ·refine Yes.cond (fun h => Yes.some ?_) fun h => Yes.some ?_
  ·rw [h,eq_comm,decide_eq_true_eq]; simp at h; exact .inl (by omega)
  ·rw [decide_eq_decide]; simp at h; unfold V4; omega
 ·subst hr
  refine Yes.cond (fun h=>Yes.some ?_) fun h=>?_
  ·simp only [decide_eq_true_eq] at h; unfold Uo; rw [if_pos h]
  ·have hn : ¬ V4 l := by simpa using h
   refine Yes.bind (Yes.mono (Q':=fun r=>r=!decide (Ja l)) ?_ fun r hr=>?_)
   ·refine Wg _ (s52P l h1) (Yes.cond (fun h => Yes.some ?_) fun h => ?_)
    ·have : ¬ Ja l := fun ho => by simp only [Bool.not_eq_true', decide_eq_false_iff_not] at h; exact h ⟨ho.1, ho.2.2.1⟩
     rw [h]; simp [this]
    ·have hr : Yz l.Rates ∧ 0 < l.Rates.length := by simpa using h
     rw [s53P _ (by omega)]
     refine Yes.bind (Yes.some (Yes.cond (fun h=>Yes.some ?_) fun h=>?_))
     ·have:¬ Ja l:=fun ho=>by
       have:l.Extras.all (Kt 0 1000)=true:=List.all_eq_true.2 ho.2.1
       rw [this] at h; cases h
      rw [h]; simp [this]
     ·have he : ∀ x ∈ l.Extras, Kt 0 1000 x = true := List.all_eq_true.1 (by simpa using h)
      rw [Vi]
      refine Yes.bind (Yes.some (Yes.cond (fun h=>Yes.some ?_) fun h=>?_))
      ·have : ¬ Ja l := fun ho => by rw [ho.2.2.2.1] at h; cases h
       rw [h]; simp [this]
      ·have hf : Kt 0 1000 l.Fine = true := by simpa using h
       rw [s53P _ (by simp)]
       refine Yes.bind (Yes.some (Yes.some ?_))
       congr 1
       simp only [List.all_cons,List.all_nil,Bool.and_true]
       by_cases hc:Kt 0 1000 l.Cap=true
       ·have : Ja l := ⟨hr.1, he, hr.2, hf, hc⟩
        simp [this,hc]
       ·have : ¬ Ja l := fun ho => hc ho.2.2.2.2
        simp [this]; simpa using hc
   ·subst hr
    refine Yes.cond (fun h=>Yes.some ?_) fun h=>Yes.some ?_
    ·have : ¬ Ja l := by simpa using h
     unfold Uo; rw [if_neg hn,if_neg this]
    ·have : Ja l := by simpa using h
     unfold Uo; rw [if_neg hn,if_pos this]
theorem s124P (x y:Int):f150 x y=some (decide (x < y)):=by
 have h:∀ z,f82 z=some false:=fun z=>by simp [f82]
 unfold f150
 rw [h]; rfl
theorem s77P (x y:Int):f45 x y=some (if x < y then -1 else if y < x then 1 else 0):=by
 have h:∀ z,f82 z=some false:=fun z=>by simp [f82]
 unfold f45
 rw [h,h]
 simp only [Option.bind_some,jn,cond_false]
 by_cases h1:x < y
 ·simp [h1]
 ·by_cases h2 : y < x
  ·simp [h1,h2]
  ·simp [h1,h2]
theorem s104P (r:Gq) (y:Int):f105 r y=some (if r.From < y then -1 else if y < r.From then 1 else 0):=by unfold f105; rw [s77P]; rfl
def Rw (xs:List Int):Prop:=∀ i (h:i + 1 < xs.length),xs[i] < xs[i + 1]
theorem Fo {xs:List Int} (h:Rw xs):Lib.compact xs=xs:=by
 refine compact_all xs fun j hj=>?_
 unfold keeps
 rw [decide_eq_true_eq]
 by_cases h0:j=0
 ·exact .inl h0
 ·right
  have h1:=h (j - 1) (by omega)
  have e:j - 1 + 1=j:=by omega
  simp only [e] at h1
  rw [getElem!_pos _ j (by simpa using hj),getElem!_pos _ (j - 1) (by simp; omega)]
  simp only [List.getElem_toArray]
  omega
theorem Fp {xs:List Int} {j:Nat} (hj:j < xs.length) (h0:0 < j) (he:xs[j]=xs[j - 1]'(by omega)):(Lib.compact xs).length < xs.length:=by
 unfold compact compactUpTo
 rw [List.length_map,← List.countP_eq_length_filter]
 have h1:List.countP (keeps xs.toArray) (List.range xs.length) ≤ (List.range xs.length).length:=List.countP_le_length
 rw [List.length_range] at h1
 rcases Nat.lt_or_eq_of_le h1 with h2 | h2
 ·exact h2
 ·have h3 := List.countP_eq_length.1 (h2.trans (List.length_range).symm) j (List.mem_range.2 hj)
  unfold keeps at h3
  rw [decide_eq_true_eq] at h3
  rcases h3 with h3 | h3
  ·omega
  ·exact absurd (by rw [getElem!_pos _ j (by simpa using hj),getElem!_pos _ (j - 1) (by simp; omega)]; simpa using he) h3
def srtP (xs:List Int):Prop:=∀ i (h:i + 1 < xs.length),xs[i] ≤ xs[i + 1]
theorem s116gP {xs:List Int} (hl:xs.length ≤ 1000000):f141 xs=some (decide (srtP xs)):=by
 refine Yes.eq ?_
 unfold f141
 refine Yes.jn ?_
 rw [Cb (n:=(xs.length:Int) - 1) (by omega) (by omega)]
 refine Yes.lp (fun s=>-1 ≤ s∧s ≤ (xs.length:Int) - 1∧∀ i (h:i + 1 < xs.length),s < (i:Int) + 1→xs[i] ≤ xs[i + 1]) (fun s=>(s + 1).toNat) ⟨by omega,by omega,fun i h h2=>absurd h2 (by omega)⟩ (by simp; omega) ?_
 rintro s k ⟨h1,h2,h5⟩ hk
 refine Yes.jn (Yes.cond (fun h3=>?_) (fun h3=>Yes.some ?_))
 ·have h0 : 0 < s := by simpa using h3
  refine Yes.jn (Yes.bind (Yes.idx (n:=s.toNat) (by omega) (by omega) ?_))
  rw [Cb (n:=s - 1) (by omega) (by omega)]
  refine Yes.bind (Yes.idx (n:=s.toNat - 1) (by omega) (by omega) ?_)
  have e:s.toNat - 1 + 1=s.toNat:=by omega
  refine Wg _ (s124P _ _) (Yes.cond (fun h6=>Yes.some ?_) (fun h6=>hk _ ⟨by omega,by omega,fun i hi hs=>?_⟩ (by omega)))
  ·rw [eq_comm, decide_eq_false_iff_not]
   intro hc
   have:=hc (s.toNat - 1) (by omega)
   simp only [e] at this
   simp at h6; omega
  ·by_cases hq : i + 1 = s.toNat
   ·have hi' : i = s.toNat - 1 := by omega
    subst hi'
    simp only [e]
    simp at h6; omega
   ·exact h5 i hi (by omega)
 ·have h0 : s ≤ 0 := by simpa using h3
  rw [eq_comm,decide_eq_true_eq]
  exact fun i hi=>h5 i hi (by omega)
theorem Ii {xs:List Int} (h:¬ Rw xs):∃ i,∃ h:i + 1 < xs.length,¬ (xs[i]'(Nat.lt_of_succ_lt h) < xs[i + 1]):=by
 obtain ⟨i,hi⟩:=Classical.not_forall.1 h
 obtain ⟨hi,hn⟩:=Classical.not_forall.1 hi
 exact ⟨i,hi,hn⟩
theorem Nw {xs:List Int} (hl:xs.length ≤ 1000000):f101 xs=some (decide (Rw xs)):=by
 refine Yes.eq ?_
 unfold f101
 refine Yes.bind (Wg _ (s116gP hl) (Yes.cond (fun h=>?_) (fun h=>Yes.some (Yes.some ?_))))
 ·have hs : srtP xs := by simpa using h
  refine Wg xs (Yes.eq (by unfold f143; exact Yes.apnd (by simp; omega) (by simp; omega) (by simp))) ?_
  refine Wg ((Lib.compact xs).length:Int) (by unfold f142 Dr; rw [if_pos (by omega)]) (Yes.some (Yes.some ?_))
  rw [Int.toNat_natCast]
  by_cases ha:Rw xs
  ·rw [Fo ha]; simp [ha]
  ·obtain ⟨i, hi, hn⟩ := Ii ha
   have h2:=hs i hi
   have:=Fp (j:=i + 1) hi (Nat.succ_pos i) (Int.le_antisymm (Int.not_lt.1 hn) h2)
   rw [show decide (Rw xs)=false from by simp [ha]]
   clear hs ha hn h2 hl
   simp; omega
 ·have hs : ¬ srtP xs := by simpa using h
  rw [eq_comm,decide_eq_false_iff_not]
  exact fun ha=>hs fun i hi=>Int.le_of_lt (ha i hi)
theorem s102P {xs:List Int} (h:Rw xs) (hl:xs.length ≤ 1000000):f101 xs=some true:=by rw [Nw hl,decide_eq_true h]

def Ke (l:PayList) (p:Gf):Prop:=Kt 0 50 p.Weaver=true∧Kt 0 1000 p.Dense=true∧Kt 0 1000000 p.Picks=true∧Kt 0 100 p.Faults=true∧(∀ x ∈ p.Extras,0 ≤ x∧x < (l.Extras.length:Int))∧Rw p.Extras
theorem s79P {l:PayList} {p:Gf} (h:Ke l p) (h1:p.Extras.length ≤ 1000) (h2:l.Extras.length ≤ 1000):f63 ⟨l⟩ p=some 0:=by
 obtain ⟨ha,hb,hc,hd,he,hf⟩:=h
 refine Yes.eq ?_
 unfold f63
 refine Yes.jn (Yes.bind (Yes.mono (Q':=fun r=>r=false) ?_ fun r hr=>?_))
 ·simp only [Vi,ha,hb,hc,hd]; exact Yes.some rfl
 ·subst hr
  refine J4 rfl ?_
  rw [Cb (n:=(l.Extras.length:Int) - 1) (by omega) (by omega),s54P _ _ _ (by omega)]
  have hall:p.Extras.all (Kt 0 ((l.Extras.length:Int) - 1))=true:=List.all_eq_true.2 fun x hx=>Qh.2 (by have:=he x hx; omega)
  rw [hall]
  exact Yes.bind (Yes.some (J4 rfl (Wg _ (s102P hf (by omega)) (J4 rfl (Yes.some rfl)))))
structure Yb (l : PayList) : Prop where
 ok:Ja l
 r6:l.Rates.length ≤ 6
 e8:l.Extras.length ≤ 8
theorem Yb.chk {l:PayList} (h:Yb l):Uo l=0:=by
 have:¬ V4 l:=fun hl=>by have:=h.r6; have:=h.e8; unfold V4 at hl; omega
 unfold Uo; rw [if_neg this,if_pos h.ok]
theorem s55P {l:PayList} {p:Gf} (h:Yb l) (hp:Ke l p) (h1:p.Extras.length ≤ 1000):f27 l p=some (⟨l⟩,0):=by
 have:=h.r6; have:=h.e8
 refine Yes.eq ?_
 unfold f27
 refine Yes.jn (Wg _ (s15P l (by omega) (by omega)) (J4 (by rw [h.chk]; rfl) (Wg _ (s79P hp h1 (by omega)) (Yes.some rfl))))

def Yn (d:Int) (a:Int) (r:Gq):Int:=if r.From ≤ d then r.Rate else a
def Kd (rs:List Gq) (d:Int):Int:=rs.foldl (Yn d) 0
def Xg (ex:List Int) (a x:Int):Int:=a + ex.getD x.toNat 0
def Uv (ex xs:List Int):Int:=xs.foldl (Xg ex) 1000
def Ue (l:PayList) (p:Gf):Int:=p.Picks * Kd l.Rates p.Dense * Uv l.Extras p.Extras / 1000000
def Uw (l:PayList) (e n:Int):Int:=min (n * l.Fine) (e * l.Cap / 1000)
def Hu (l:PayList) (p:Gf) (n:Int):Int:=Ue l p - Uw l (Ue l p) n
theorem Xu (d : Int) : ∀ (rs : List Gq) (a : Int), (∀ r ∈ rs, Kt 0 10000 r.Rate = true) → 0 ≤ a ∧ a ≤ 10000 → 0 ≤ rs.foldl (Yn d) a ∧ rs.foldl (Yn d) a ≤ 10000
 | [],a,_,h=>h
 | r :: rs,a,hr,h=>by
  rw [List.foldl_cons]
  refine Xu d rs _ (fun x hx=>hr x (by simp [hx])) ?_
  have:=Qh.1 (hr r (by simp))
  unfold Yn; split <;> omega
theorem Bk {l:PayList} (h:Yb l) (d:Int):0 ≤ Kd l.Rates d∧Kd l.Rates d ≤ 10000:=
 Xu d _ 0 (fun r hr=>by obtain ⟨i,hi,rfl⟩:=List.getElem_of_mem hr; exact (h.ok.1 i hi).2.1) ⟨by omega,by omega⟩
theorem I7 {l:PayList} (h:Yb l) {x:Int} (hx:0 ≤ x∧x < (l.Extras.length:Int)):idx l.Extras x=some (l.Extras.getD x.toNat 0)∧0 ≤ l.Extras.getD x.toNat 0∧l.Extras.getD x.toNat 0 ≤ 1000:=by
 have hl:x.toNat < l.Extras.length:=by omega
 rw [List.getD_eq_getElem?_getD,List.getElem?_eq_getElem hl,Option.getD_some]
 refine ⟨?_,Qh.1 (h.ok.2.1 _ (List.getElem_mem hl))⟩
 unfold idx; rw [if_pos hx.1]; exact List.getElem?_eq_getElem hl
theorem Ud {l : PayList} (h : Yb l) : ∀ (xs : List Int) (a : Int), (∀ x ∈ xs, 0 ≤ x ∧ x < (l.Extras.length : Int)) → 0 ≤ a → a ≤ xs.foldl (Xg l.Extras) a ∧ xs.foldl (Xg l.Extras) a ≤ a + 1000 * xs.length
 | [],a,_,h=>by simp
 | x :: xs,a,hx,h0=>by
  obtain ⟨_,h1,h2⟩:=I7 h (hx x (by simp))
  rw [List.foldl_cons]
  have:=Ud h xs (Xg l.Extras a x) (fun y hy=>hx y (by simp [hy])) (by unfold Xg; omega)
  unfold Xg at this ⊢
  simp only [List.length_cons]
  omega
theorem Pm {l:PayList} (h:Yb l) {xs:List Int} (hx:∀ x ∈ xs,0 ≤ x∧x < (l.Extras.length:Int)) (hl:xs.length ≤ 1000):1000 ≤ Uv l.Extras xs∧Uv l.Extras xs ≤ 1001000:=by
 have:=Ud h xs 1000 hx (by omega)
 unfold Uv; omega
theorem S6 {α β:Type} (F:β→α→β) (xs:List α) (a:β) {i:Nat} (hi:i < xs.length):(xs.take (i + 1)).foldl F a=F ((xs.take i).foldl F a) xs[i]:=by
 rw [List.take_succ_eq_append_getElem hi,List.foldl_append]; rfl
theorem Vl {a b A B:Int} (ha:0 ≤ a) (hA:a ≤ A) (hb:0 ≤ b) (hB:b ≤ B):0 ≤ a * b∧a * b ≤ A * B:=
 ⟨Int.mul_nonneg ha hb,Int.mul_le_mul hA hB hb (Int.le_trans ha hA)⟩
theorem Vo {l : PayList} {p : Gf} (h : Yb l) (hp : Ke l p) (h1 : p.Extras.length ≤ 1000) :
  (0 ≤ p.Picks * Kd l.Rates p.Dense∧p.Picks * Kd l.Rates p.Dense ≤ 10000000000)∧(0 ≤ p.Picks * Kd l.Rates p.Dense * Uv l.Extras p.Extras∧p.Picks * Kd l.Rates p.Dense * Uv l.Extras p.Extras ≤ 10010000000000000)∧0 ≤ Ue l p∧Ue l p ≤ 10010000000:=by
 have hr:=Bk h p.Dense
 have hq:=Pm h hp.2.2.2.2.1 h1
 have hk:=Qh.1 hp.2.2.1
 have e1:=Vl hk.1 hk.2 hr.1 hr.2
 have e2:=Vl e1.1 e1.2 (by omega) hq.2
 refine ⟨⟨e1.1,by omega⟩,⟨e2.1,by omega⟩,?_⟩
 unfold Ue; omega
theorem I6 {a b:Nat} (h:a + b < 4611686018427387904) {β:Type} {K:Int→Option β} {Q:β→Prop} (hk:Yes (K (((a + b) / 2:Nat):Int)) Q):Yes ((Ws (T3 (w64 ((a:Int) + (b:Int)))) (1:Int)).bind K) Q:=by
 refine Yes.bind (Yes.of (a:=(((a + b) / 2:Nat):Int)) ?_ hk)
 rw [Qa (by omega) (by omega),show ((a:Int) + (b:Int))=((a + b:Nat):Int) by omega,Iw (by omega) (by omega)]
 unfold Ws
 rw [if_neg (by omega)]
 congr 1
 show Int.fdiv _ (2 ^ (min (Int.toNat 1) 64))=_
 rw [show min (Int.toNat 1) 64=1 by decide,Int.pow_one]
 rw [Int.fdiv_eq_ediv_of_nonneg _ (by omega)]; omega
theorem s103P {rs : List Gq} (d : Int) (hl : rs.length ≤ 1000) (hs : ∀ i j (hi : i < rs.length) (hj : j < rs.length), i < j → rs[i].From < rs[j].From) :
  Yes (f104 rs d (fun a0 a1=>f105 a0 a1)) fun r=>∃ m:Nat,m ≤ rs.length∧(∀ j (h:j < rs.length),j < m→rs[j].From < d)∧(∀ j (h:j < rs.length),m ≤ j→d ≤ rs[j].From)∧r=((m:Int),decide (∃ h:m < rs.length,rs[m].From=d)):=by
 unfold f104
 refine Yes.bind (Yes.mono (Q':=fun r=>∃ m:Nat,m ≤ rs.length∧(∀ j (h:j < rs.length),j < m→rs[j].From < d)∧(∀ j (h:j < rs.length),m ≤ j→d ≤ rs[j].From)∧r=(m:Int)) ?_ fun r hr=>?_)
 ·refine Yes.lp (fun s => ∃ a b : Nat, s = ((a : Int), (b : Int)) ∧ a ≤ b ∧ b ≤ rs.length ∧ (∀ j (h : j < rs.length), j < a → rs[j].From < d) ∧ (∀ j (h : j < rs.length), b ≤ j → d ≤ rs[j].From)) (fun s => (s.2 - s.1).toNat)
   ⟨0,rs.length,rfl,Nat.zero_le _,Nat.le_refl _,fun _ _ h=>absurd h (Nat.not_lt_zero _),fun j h h2=>absurd h (by omega)⟩ (by simp; omega) ?_
  rintro ⟨s,t⟩ k ⟨a,b,he,hab,hb,h1,h2⟩ hk
  injection he with e1 e2; subst e1; subst e2
  refine Yes.jn (Yes.cond (fun h3=>?_) (fun h3=>Yes.some ?_))
  ·have hlt : a < b := by simp at h3; omega
   have hm:(a + b) / 2 < rs.length:=by omega
   refine I6 (by omega) ?_
   rw [Qa (n:=(((a + b) / 2:Nat):Int)) (by omega) (by omega)]
   refine Yes.bind (Yes.idx rfl hm ?_)
   refine Wg _ (s104P _ _) (Yes.cond (fun h4=>?_) (fun h4=>?_))
   ·have hd:rs[(a + b) / 2].From < d:=by
     by_cases hc:rs[(a + b) / 2].From < d
     ·exact hc
     ·rw [if_neg hc] at h4; split at h4 <;> simp at h4
    rw [Qa (n:=(((a + b) / 2:Nat):Int) + 1) (by omega) (by omega)]
    refine hk _ ⟨(a + b) / 2 + 1,b,by simp,by omega,hb,fun j hj hjm=>?_,h2⟩ (by simp; omega)
    rcases Nat.lt_succ_iff_lt_or_eq.1 hjm with h | rfl
    ·have:=hs j _ hj hm h; omega
    ·exact hd
   ·have hd:d ≤ rs[(a + b) / 2].From:=by
     by_cases hc:rs[(a + b) / 2].From < d
     ·rw [if_pos hc] at h4; simp at h4
     ·omega
    refine hk _ ⟨a,(a + b) / 2,rfl,by omega,by omega,h1,fun j hj hjm=>?_⟩ (by simp; omega)
    rcases Nat.eq_or_lt_of_le hjm with h | h
    ·subst h; exact hd
    ·have:=hs _ j hm hj h; omega
  ·have : a = b := by simp at h3; omega
   subst this
   exact ⟨a,hb,h1,h2,rfl⟩
 ·obtain ⟨m, hm, h1, h2, rfl⟩ := hr
  refine Yes.bind (Yes.cond (fun h3=>?_) (fun h3=>Yes.some (Yes.some ⟨m,hm,h1,h2,?_⟩)))
  ·have hlt : m < rs.length := by simp at h3; omega
   refine Yes.bind (Yes.idx rfl hlt ?_)
   refine Wg _ (s104P _ _) (Yes.some (Yes.some ⟨m,hm,h1,h2,?_⟩))
   have hd:=h2 m hlt (Nat.le_refl _)
   congr 1
   rw [if_neg (by omega)]
   by_cases hc:d < rs[m].From
   ·rw [if_pos hc, eq_comm]
    have:¬ ∃ h:m < rs.length,rs[m].From=d:=fun ⟨_,he⟩=>by omega
    simp [this]
   ·rw [if_neg hc, eq_comm]
    have:∃ h:m < rs.length,rs[m].From=d:=⟨hlt,by omega⟩
    simp [this]
  ·have hn : ¬ m < rs.length := by simp at h3; omega
   congr 1
   have:¬ ∃ h:m < rs.length,rs[m].From=d:=fun ⟨h,_⟩=>hn h
   simp [this]
theorem Xe {rs:List Gq} (h:Yz rs):∀ i j (hi:i < rs.length) (hj:j < rs.length),i < j→rs[i].From < rs[j].From:=by
 intro i j hi hj hij
 induction j with
 | zero=>omega
 | succ j ih=>
  have h1:=(h (j + 1) hj).2.2.2 (by omega)
  simp only [Nat.add_sub_cancel] at h1
  rcases Nat.lt_succ_iff_lt_or_eq.1 hij with h2 | rfl
  ·have:=ih (by omega) h2; omega
  ·exact h1
theorem Sx (d : Int) : ∀ (rs : List Gq) (a : Int), (∀ r ∈ rs, ¬ r.From ≤ d) → rs.foldl (Yn d) a = a
 | [],_,_=>rfl
 | r :: rs,a,h=>by
  rw [List.foldl_cons]
  rw [show Yn d a r=a by unfold Yn; rw [if_neg (h r (by simp))]]
  exact Sx d rs a fun x hx=>h x (by simp [hx])
theorem Pj {rs:List Gq} {d:Int} {e:Nat} (he:e < rs.length) (h1:rs[e].From ≤ d) (h2:∀ j (h:j < rs.length),e < j→d < rs[j].From):Kd rs d=rs[e].Rate:=by
 unfold Kd
 have key:rs.foldl (Yn d) 0=(rs.take (e + 1) ++ rs.drop (e + 1)).foldl (Yn d) 0:=by rw [List.take_append_drop]
 rw [key,List.foldl_append,S6 _ _ _ he,Sx]
 ·unfold Yn; rw [if_pos h1]
 ·intro r hr
  obtain ⟨j,hj,rfl⟩:=List.getElem_of_mem hr
  rw [List.getElem_drop]
  rw [List.length_drop] at hj
  have:=h2 (e + 1 + j) (by omega) (by omega)
  omega
theorem s80P {l:PayList} (h:Yb l) {d:Int} (hd:0 ≤ d):f67 ⟨l⟩ d=some (Kd l.Rates d):=by
 have h6:=h.r6
 have h0:=h.ok.2.2.1
 have hz:=(h.ok.1 0 h0).2.2.1 rfl
 refine Yes.eq ?_
 unfold f67
 dsimp only
 refine Yes.bind (Yes.mono (s103P d (by omega) (Xe h.ok.1)) fun r hr=>?_)
 obtain ⟨m,hm,h1,h2,rfl⟩:=hr
 simp only
 by_cases hf:∃ h:m < l.Rates.length,l.Rates[m].From=d
 ·rw [decide_eq_true hf]
  obtain ⟨hm2,he⟩:=hf
  refine Yes.bind (J4 rfl (Yes.some (Yes.bind (Yes.idx rfl hm2 (Yes.some ?_)))))
  rw [Pj hm2 (by omega) fun j hj hjm=>by have:=Xe h.ok.1 m j hm2 hj hjm; omega]
 ·rw [decide_eq_false hf]
  have hmp:0 < m:=by
   rcases Nat.eq_zero_or_pos m with rfl | h3
   ·have := h2 0 h0 (Nat.le_refl _)
    exact absurd ⟨h0,by omega⟩ hf
   ·exact h3
  rw [Qa (n:=(m:Int) - 1) (by omega) (by omega)]
  refine Yes.bind (Sz rfl (Yes.some (Yes.bind (Yes.idx (n:=m - 1) (by omega) (by omega) (Yes.some ?_)))))
  rw [Pj (e:=m - 1) (by omega) (by have:=h1 (m - 1) (by omega) (by omega); omega) fun j hj hjm=>?_]
  have h3:=h2 j hj (by omega)
  rcases Nat.eq_or_lt_of_le (show m ≤ j by omega) with h4 | h4
  ·subst h4
   rcases Int.lt_or_eq_of_le h3 with h5 | h5
   ·exact h5
   ·exact absurd ⟨hj,h5.symm⟩ hf
  ·have := Xe h.ok.1 m j (by omega) hj h4
   have:=h2 m (by omega) (Nat.le_refl _)
   omega
theorem s56P {l:PayList} {p:Gf} (h:Yb l) (hp:Ke l p) (h1:p.Extras.length ≤ 1000):f31 ⟨l⟩ p=some (Ue l p):=by
 obtain ⟨e1,e2,_⟩:=Vo h hp h1
 refine Yes.eq ?_
 unfold f31
 refine Yes.bind (Yes.mono (Q':=fun r=>r=Uv l.Extras p.Extras) ?_ fun r hr=>?_)
 ·refine Yes.upto p.Extras.length (by omega) (fun i s => s = (p.Extras.take i).foldl (Xg l.Extras) 1000) rfl (fun i s k hi hI hk => ?_) (fun s k hI => ?_)
  ·have hx := I7 h (hp.2.2.2.2.1 _ (List.getElem_mem hi))
   have hb:=Ud h (p.Extras.take i) 1000 (fun x hx=>hp.2.2.2.2.1 x (List.mem_of_mem_take hx)) (by omega)
   rw [← hI,List.length_take] at hb
   refine Sz (by simp; omega) (Yes.bind (Yes.bind (Yes.idx rfl hi (Wg _ hx.1 (Yes.some ?_)))))
   rw [Cb (by omega) (by omega)]
   refine hk _ ?_
   rw [S6 _ _ _ hi,← hI]; rfl
  ·refine J4 (by simp) (Yes.some ?_)
   rw [hI,List.take_length]; rfl
 ·subst hr
  refine Wg _ (s80P h (Qh.1 hp.2.1).1) ?_
  rw [Qa (n:=p.Picks * Kd l.Rates p.Dense) (by omega) (by omega),Qa (n:=p.Picks * Kd l.Rates p.Dense * Uv l.Extras p.Extras) (by omega) (by omega),Mf e2.1 (by omega) (by omega)]
  exact Yes.bind (Yes.some (Yes.some rfl))
theorem R2 {l:PayList} (h:Yb l) {e n:Int} (he:0 ≤ e∧e ≤ 10010000000) (hn:0 ≤ n∧n ≤ 100):(0 ≤ n * l.Fine∧n * l.Fine ≤ 100000)∧(0 ≤ e * l.Cap∧e * l.Cap ≤ 10010000000000)∧e * l.Cap / 1000 ≤ e:=by
 have h1:=Qh.1 h.ok.2.2.2.1
 have h2:=Qh.1 h.ok.2.2.2.2
 have e1:=Vl hn.1 hn.2 h1.1 h1.2
 have e2:=Vl he.1 he.2 h2.1 h2.2
 have e3:e * l.Cap ≤ e * 1000:=Int.mul_le_mul_of_nonneg_left h2.2 he.1
 exact ⟨⟨e1.1,by omega⟩,⟨e2.1,by omega⟩,by omega⟩
theorem s57P {l:PayList} (h:Yb l) {e n:Int} (he:0 ≤ e∧e ≤ 10010000000) (hn:0 ≤ n∧n ≤ 100):f32 ⟨l⟩ e n=some (Uw l e n):=by
 obtain ⟨e1,e2,_⟩:=R2 h he hn
 refine Yes.eq ?_
 unfold f32
 simp only
 rw [Qa (n:=e * l.Cap) (by omega) (by omega),Mf e2.1 (by omega) (by omega),Qa (n:=n * l.Fine) (by omega) (by omega)]
 exact Yes.bind (Yes.some (Yes.some (M5 _ _)))
theorem U9 {l:PayList} (h:Yb l) {e n:Int} (he:0 ≤ e∧e ≤ 10010000000) (hn:0 ≤ n∧n ≤ 100):0 ≤ Uw l e n∧Uw l e n ≤ e:=by
 obtain ⟨e1,e2,e3⟩:=R2 h he hn
 unfold Uw; omega
theorem Lz {l:PayList} {p:Gf} (h:Yb l) (hp:Ke l p) (h1:p.Extras.length ≤ 1000) {n:Int} (hn:0 ≤ n∧n ≤ 100):0 ≤ Hu l p n∧Hu l p n ≤ 10010000000:=by
 obtain ⟨_,_,he⟩:=Vo h hp h1
 have:=U9 h he hn
 unfold Hu; omega
theorem s58P {l:PayList} {p:Gf} (h:Yb l) (hp:Ke l p) (h1:p.Extras.length ≤ 1000) {n:Int} (hn:0 ≤ n∧n ≤ 100):f28 ⟨l⟩ p n=some (Hu l p n):=by
 obtain ⟨_,_,he⟩:=Vo h hp h1
 have hb:=U9 h he hn
 refine Yes.eq ?_
 unfold f28
 refine Wg _ (s56P h hp h1) (Wg _ (s57P h he hn) (Yes.some ?_))
 rw [Qa (by omega) (by omega)]; rfl
theorem s16P {l:PayList} {p:Gf} (h:Yb l) (hp:Ke l p) (h1:p.Extras.length ≤ 1000):f14 l p=some (Ue l p,Uw l (Ue l p) p.Faults,Hu l p p.Faults,0):=by
 obtain ⟨_,_,he⟩:=Vo h hp h1
 have hn:=Qh.1 hp.2.2.2.1
 refine Yes.eq ?_
 unfold f14
 exact Wg _ (s55P h hp h1) (Yes.jn (J4 rfl (Wg _ (s56P h hp h1) (Wg _ (s57P h he hn) (Wg _ (s58P h hp h1 hn) (Yes.some rfl))))))
def Pd (p:Gf):Prop:=Kt 0 50 p.Weaver=true∧Kt 0 1000 p.Dense=true∧Kt 0 1000000 p.Picks=true∧Kt 0 100 p.Faults=true
def pExP (l:PayList) (p:Gf):Prop:=∀ x ∈ p.Extras,0 ≤ x∧x < (l.Extras.length:Int)
noncomputable def J1 (l:PayList) (p:Gf):Int:=if ¬ Pd p then 2 else if ¬ pExP l p then 7 else if ¬ Rw p.Extras then 4 else 0
theorem Lg {l:PayList} {p:Gf} (h:J1 l p=0):Ke l p:=by
 unfold J1 at h
 split at h
 ·cases h
 split at h
 ·cases h
 split at h
 ·cases h
 rename_i h1 h2 h3
 have h1:=Classical.not_not.1 h1
 exact ⟨h1.1,h1.2.1,h1.2.2.1,h1.2.2.2,Classical.not_not.1 h2,Classical.not_not.1 h3⟩
theorem s79gP {l:PayList} {p:Gf} (h1:p.Extras.length ≤ 1000) (h2:l.Extras.length ≤ 1000):f63 ⟨l⟩ p=some (J1 l p):=by
 refine Yes.eq ?_
 unfold f63
 refine Yes.jn (Yes.bind (Yes.mono (Q':=fun r=>r=!decide (Pd p)) ?_ fun r hr=>?_))
 ·simp only [Vi, Option.bind_some]
  unfold Pd
  cases h3:Kt 0 50 p.Weaver <;> cases h4:Kt 0 1000 p.Dense <;> cases h5:Kt 0 1000000 p.Picks <;> cases h6:Kt 0 100 p.Faults <;> simp <;> exact Yes.some rfl
 ·subst hr
  unfold J1
  refine Yes.cond (fun h=>Yes.some ?_) (fun h=>?_)
  ·have : ¬ Pd p := by simpa using h
   rw [if_pos this]
  have hn:Pd p:=by simpa using h
  rw [if_neg (by simpa using hn)]
  dsimp only
  rw [Cb (n:=(l.Extras.length:Int) - 1) (by omega) (by omega),s54P _ _ _ (by omega)]
  refine Yes.bind (Yes.some (Yes.cond (fun h=>Yes.some ?_) (fun h=>?_)))
  ·have:¬ pExP l p:=fun he=>by
    have hall:p.Extras.all (Kt 0 ((l.Extras.length:Int) - 1))=true:=List.all_eq_true.2 fun x hx=>Qh.2 (by have:=he x hx; omega)
    rw [hall] at h; cases h
   rw [if_pos this]
  have he:pExP l p:=fun x hx=>by
   have hall:p.Extras.all (Kt 0 ((l.Extras.length:Int) - 1))=true:=by simpa using h
   have:=Qh.1 (List.all_eq_true.1 hall x hx); omega
  rw [if_neg (by simpa using he)]
  refine Wg _ (Nw (by omega)) (Yes.cond (fun h=>Yes.some ?_) (fun h=>Yes.some ?_))
  ·have : ¬ Rw p.Extras := by simpa using h
   rw [if_pos this]
  ·have : Rw p.Extras := by simpa using h
   rw [if_neg (by simpa using this)]
noncomputable def Mr (l:PayList) (p:Gf):Int:=if Uo l ≠ 0 then Uo l else J1 l p
theorem s55gP {l:PayList} {p:Gf} (h1:p.Extras.length ≤ 1000) (h2:l.Extras.length ≤ 1000) (h3:l.Rates.length ≤ 1000):f27 l p=some (⟨l⟩,Mr l p):=by
 refine Yes.eq ?_
 unfold f27 Mr
 refine Yes.jn (Wg _ (s15P l h3 h2) (Yes.cond (fun h=>Yes.some ?_) (fun h=>Wg _ (s79gP h1 h2) (Yes.some ?_))))
 ·rw [if_pos (by simpa using h)]
 ·rw [if_neg (by simpa using h)]
section
variable {κ ν:Type} [DecidableEq κ]
theorem Ba (k:κ):Wb ([]:List (κ × ν)) k=none:=rfl
theorem H7 (p:κ × ν) (m:List (κ × ν)) (k:κ):Wb (p :: m) k=if p.1=k then some p.2 else Wb m k:=by
 unfold Wb
 rw [List.find?_cons]
 by_cases h:p.1=k <;> simp [h]
theorem S1 (k : κ) (v : ν) (k' : κ) : ∀ m : List (κ × ν), Wb (H0 m k v) k' = if k' = k then some v else Wb m k'
 | []=>by
  rw [show H0 ([]:List (κ × ν)) k v=[(k,v)] from rfl,H7,Ba]
  by_cases h:k'=k
  ·simp [h]
  ·simp [h,Ne.symm h]
 | p :: m=>by
  have ih:=S1 k v k' m
  by_cases hp:p.1=k
  ·rw [show H0 (p :: m) k v = (k, v) :: m from if_pos hp, H7, H7]
   by_cases h:k'=k
   ·simp [h]
   ·rw [if_neg (Ne.symm h),if_neg h,if_neg (by rw [hp]; exact Ne.symm h)]
  ·rw [show H0 (p :: m) k v = p :: H0 m k v from if_neg hp, H7, H7, ih]
   by_cases h:k'=k
   ·subst h; simp [hp]
   ·simp [h]
theorem Cj {k : κ} : ∀ {m : List (κ × ν)}, k ∈ m.map (·.1) ↔ (Wb m k).isSome = true
 | []=>by simp [Ba]
 | p :: m=>by
  have ih:=Cj (k:=k) (m:=m)
  rw [List.map_cons,List.mem_cons,H7,ih]
  by_cases h:p.1=k
  ·simp [h]
  ·simp [h,Ne.symm h]
theorem Sn (k : κ) (v : ν) : ∀ m : List (κ × ν), (H0 m k v).map (·.1) = if k ∈ m.map (·.1) then m.map (·.1) else m.map (·.1) ++ [k]
 | []=>rfl
 | p :: m=>by
  have ih:=Sn k v m
  by_cases hp:p.1=k
  ·rw [show H0 (p :: m) k v=(k,v) :: m from if_pos hp,List.map_cons,List.map_cons,if_pos (by simp [hp])]; simp [hp]
  ·rw [show H0 (p :: m) k v = p :: H0 m k v from if_neg hp, List.map_cons, List.map_cons, ih]
   by_cases hk:k ∈ m.map (·.1)
   ·rw [if_pos hk,if_pos (List.mem_cons_of_mem _ hk)]
   ·rw [if_neg hk,if_neg (by rw [List.mem_cons]; exact fun h=>h.elim (fun h=>hp h.symm) hk)]; rfl
theorem Ld {k:κ} {v:ν} {m:List (κ × ν)} (h:(m.map (·.1)).Nodup):((H0 m k v).map (·.1)).Nodup:=by
 rw [Sn]
 split
 ·exact h
 ·rename_i hk
  rw [List.nodup_append]
  exact ⟨h,by simp,fun a ha b hb=>by rw [List.mem_singleton.1 hb]; exact fun e=>hk (e ▸ ha)⟩
theorem Ak {xs ys:List Int} (h:xs.Perm ys) (hs:ys.Pairwise (· ≤ ·)):xs.mergeSort (fun x y=>decide (x ≤ y))=ys:=by
 rw [mergeSort_of_perm_i h]
 exact List.mergeSort_of_pairwise (hs.imp fun h=>by simpa using h)
def V0 (n:Nat):List Int:=(List.range n).map fun i:Nat=>(i:Int)
theorem Cn {n:Nat} {x:Int}:x ∈ V0 n ↔ 0 ≤ x∧x < (n:Int):=by
 unfold V0
 rw [List.mem_map]
 constructor
 ·rintro ⟨i,hi,rfl⟩; have:=List.mem_range.1 hi; omega
 ·intro h; exact ⟨x.toNat,List.mem_range.2 (by omega),by omega⟩
theorem Cm (n:Nat):(V0 n).Pairwise (· < ·):=by
 unfold V0; rw [List.pairwise_map]
 exact List.pairwise_lt_range.imp fun h=>by omega
def Hn (ps:List Gf) (w:Int):Bool:=ps.any fun p=>p.Weaver == w
def Kx (l:PayList) (ps:List Gf) (w:Int):Int:=((ps.filter fun p=>p.Weaver == w).map fun p=>Hu l p p.Faults).sum
def Qn (ps:List Gf):List Int:=(V0 51).filter (Hn ps)
structure Pk (l : PayList) (ps : List Gf) : Prop where
 lok:Yb l
 p:∀ p ∈ ps,Ke l p∧p.Extras.length ≤ 12
 n:ps.length ≤ 60
end
section
variable {κ ν:Type} [DecidableEq κ]
variable {l:PayList} {ps:List Gf}
theorem A8 (g:Pk l ps) {i:Nat} (h:i < ps.length):Ke l ps[i]∧ps[i].Extras.length ≤ 1000∧(0 ≤ ps[i].Faults∧ps[i].Faults ≤ 100)∧(0 ≤ ps[i].Weaver∧ps[i].Weaver ≤ 50)∧(0 ≤ Hu l ps[i] ps[i].Faults∧Hu l ps[i] ps[i].Faults ≤ 10010000000):=by
 obtain ⟨h1,h2⟩:=g.p _ (List.getElem_mem h)
 have hf:=Qh.1 h1.2.2.2.1
 exact ⟨h1,by omega,hf,Qh.1 h1.1,Lz g.lok h1 (by omega) hf⟩
theorem R9 {i:Nat} (h:i < ps.length) (w:Int):Kx l (ps.take (i + 1)) w=Kx l (ps.take i) w + if ps[i].Weaver=w then Hu l ps[i] ps[i].Faults else 0:=by
 unfold Kx
 rw [List.take_succ_eq_append_getElem h,List.filter_append,List.map_append,List.sum_append]
 by_cases hw:ps[i].Weaver=w
 ·simp [hw]
 ·simp [hw]
theorem Nc {i:Nat} (h:i < ps.length) (w:Int):Hn (ps.take (i + 1)) w=(Hn (ps.take i) w || decide (ps[i].Weaver=w)):=by
 unfold Hn
 rw [List.take_succ_eq_append_getElem h,List.any_append]
 simp [Bool.beq_eq_decide_eq]
theorem Rc (g : Pk l ps) (w : Int) : ∀ i, i ≤ ps.length → 0 ≤ Kx l (ps.take i) w ∧ Kx l (ps.take i) w ≤ 10010000000 * i
 | 0,_=>by simp [Kx]
 | i + 1,h=>by
  have ih:=Rc g w i (by omega)
  have:=(A8 g (i:=i) (by omega)).2.2.2.2
  rw [R9 (by omega)]
  split <;> omega
theorem Cv {w:Int} (h:Hn ps w=false):Kx l ps w=0:=by
 unfold Kx
 have:ps.filter (fun p=>p.Weaver == w)=[]:=List.filter_eq_nil_iff.2 fun p hp=>by have:=List.any_eq_false.1 h p hp; simpa using this
 rw [this]; rfl
structure Fy (l : PayList) (ps : List Gf) (m : List (Int × Int)) : Prop where
 nd:(m.map (·.1)).Nodup
 at_:∀ k,Wb m k=if Hn ps k then some (Kx l ps k) else none
theorem M4 {i : Nat} (h : i < ps.length) {m : List (Int × Int)} (hm : Fy l (ps.take i) m) :
  Fy l (ps.take (i + 1)) (H0 m ps[i].Weaver ((Wb m ps[i].Weaver).getD 0 + Hu l ps[i] ps[i].Faults)):=by
 refine ⟨Ld hm.nd,fun k=>?_⟩
 have e:(Wb m ps[i].Weaver).getD 0=Kx l (ps.take i) ps[i].Weaver:=by
  rw [hm.at_]
  cases hh:Hn (ps.take i) ps[i].Weaver with
  | true=>rfl
  | false=>rw [Cv hh]; rfl
 rw [S1,e,Nc h,R9 h,hm.at_]
 by_cases hk:k=ps[i].Weaver
 ·subst hk; simp
 ·rw [if_neg hk,if_neg (Ne.symm hk),decide_eq_false (Ne.symm hk),Bool.or_false,Int.add_zero]
theorem Nf (g:Pk l ps) {m:List (Int × Int)} (hm:Fy l ps m):F5 m=some (Qn ps):=by
 have hmem:∀ k,k ∈ m.map (·.1) ↔ k ∈ Qn ps:=fun k=>by
  rw [Cj,hm.at_]
  unfold Qn
  rw [List.mem_filter,Cn]
  cases hh:Hn ps k with
  | false=>simp
  | true=>
   simp only [if_true,Option.isSome_some,true_iff,and_true]
   obtain ⟨p,hp,hw⟩:=List.any_eq_true.1 hh
   have:=Qh.1 (g.p p hp).1.1
   have hw:p.Weaver=k:=by simpa using hw
   omega
 have hndw:(Qn ps).Nodup:=((Cm 51).imp fun h=>by omega:(V0 51).Nodup).filter _
 have hperm:(m.map (·.1)).Perm (Qn ps):=(List.perm_ext_iff_of_nodup hm.nd hndw).2 hmem
 have hlen:(Qn ps).length ≤ 51:=by unfold Qn; refine Nat.le_trans (List.length_filter_le _ _) ?_; simp [V0]
 unfold F5
 rw [if_pos]
 ·rw [Ak hperm (((Cm 51).imp fun h=>by omega:(V0 51).Pairwise (· ≤ ·)).filter _)]
 ·refine ⟨?_, hm.nd, fun k hk => ?_⟩
  ·have := hperm.length_eq
   rw [List.length_map] at this; omega
  ·have := List.mem_filter.1 ((hmem k).1 hk)
   have:=Cn.1 this.1
   omega
def En (l:PayList) (ps:List Gf) (i:Nat):Prop:=∃ h:i < ps.length,J1 l ps[i] ≠ 0∧∀ j (hj:j < i),J1 l (ps[j]'(by omega))=0
theorem Ih (h:Uo l=0) (p:Gf):Mr l p=J1 l p:=by unfold Mr; rw [if_neg (by simpa using h)]
theorem Md (h:Uo l=0):Yb l:=by
 unfold Uo at h
 split at h
 ·cases h
 ·rename_i h6
  split at h
  ·rename_i ho; unfold V4 at h6; exact ⟨ho,by omega,by omega⟩
  ·cases h
end
end Go.Proofs.YtjjbobaoifflpaaGreatDoor
