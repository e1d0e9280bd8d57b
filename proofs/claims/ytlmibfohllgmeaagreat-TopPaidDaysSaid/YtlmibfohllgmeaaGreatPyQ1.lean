/- Laws of plain functions, part 1. -/
import Derived.Test.YtlmibfohllgmeaaGreatCodes
import Derived.Test.YtlmibfohllgmeaaGreatYes
import Derived.Test.YtlmibfohllgmeaaGreatShi
set_option maxRecDepth 8000
namespace Go.Proofs.YtlmibfohllgmeaaGreat
open Go.RowKit
open Classical
open Go.Lib (compact compactUpTo keeps compact_all)
theorem qskipP {α:Type} {Q:α→Prop} {c:Bool} {X Y:Option α} (hc:c=false) (h:Yes Y Q):Yes (bif c then X else Y) Q:=by rw [hc]; exact h
theorem qtakeP {α:Type} {Q:α→Prop} {c:Bool} {X Y:Option α} (hc:c=true) (h:Yes X Q):Yes (bif c then X else Y) Q:=by rw [hc]; exact h
theorem qbindP {α β:Type} {Q:β→Prop} {x:Option α} {f:α→Option β} (a:α) (h:x=some a) (k:Yes (f a) Q):Yes (x.bind f) Q:=by rw [h]; exact k
theorem qw64P {n:Int} (h1:-1000000000 ≤ n) (h2:n ≤ 1000000000):w64 n=n:=w64_id (by omega) (by omega)
theorem wu64_idP {n:Int} (h1:0 ≤ n) (h2:n ≤ 9223372036854775807):wu64 n=n:=by
 unfold wu64; rw [show IntKind.u64.wrap n=n % 18446744073709551616 from rfl]; omega
theorem quo_nnP {a b:Int} (ha:0 ≤ a) (ha2:a ≤ 9223372036854775807) (hb:0 < b):quo64 a b=some (a / b):=by
 unfold quo64
 rw [if_neg (by omega),Int.tdiv_eq_ediv_of_nonneg ha,w64_id]
 ·have:=Int.ediv_nonneg ha (Int.le_of_lt hb); omega
 ·exact Int.le_trans (Int.ediv_le_self b ha) ha2
theorem min64_eqP (a b:Int):min64 a b=min a b:=by unfold min64; omega
def btwP (a b x:Int):Bool:=decide (a ≤ x∧x ≤ b)
theorem s78P (x a b:Int):f108 x a b=some (!btwP a b x):=by unfold f108 btwP; by_cases h1:x < a <;> by_cases h2:x > b <;> simp [h1,h2] <;> omega
theorem s68P (xs:List Int) (φ:Int→Option Bool) (p:Int→Bool) (hl:xs.length < 9223372036854775807) (h:∀ a ∈ xs,φ a=some (p a)):f72 xs φ=some (xs.any p):=
 Yes.eq (Yes.bind (Yes.mono (index_is xs φ p hl h) fun _ hr=>Yes.some (index_any hr)))
theorem s54P (a b:Int) (xs:List Int) (hl:xs.length < 9223372036854775807):f63 a b xs=some (xs.all (btwP a b)):=by
 unfold f63
 rw [s68P xs _ (fun x=>!btwP a b x) hl fun x _=>s78P x a b]
 simp [List.all_eq_not_any_not]
theorem s54_oneP (a b x:Int):f63 a b [x]=some (btwP a b x):=by rw [s54P _ _ _ (by simp)]; simp
theorem s53P (xs:List Int) (hl:xs.length < 9223372036854775807):f104 xs=some (xs.all (btwP 0 1000)):=by
 unfold f104; rw [s54P _ _ _ hl]; rfl

def okAtP (rs:List PayRate) (i:Nat) (h:i < rs.length):Prop:=btwP 0 1000 rs[i].From=true∧btwP 0 10000 rs[i].Rate=true∧(i=0→rs[i].From=0)∧∀ _:0 < i,(rs[i - 1]'(by omega)).From < rs[i].From
def okRatesP (rs:List PayRate):Prop:=∀ i (h:i < rs.length),okAtP rs i h
def okListP (l:PayList):Prop:=okRatesP l.Rates∧(∀ x ∈ l.Extras,btwP 0 1000 x=true)∧0 < l.Rates.length∧btwP 0 1000 l.Fine=true∧btwP 0 1000 l.Cap=true
def long6P (l:PayList):Prop:=l.Rates.length > 6 ∨ l.Extras.length > 8
noncomputable def chkLP (l:PayList):Int:=if long6P l then 5 else if okListP l then 0 else 2
theorem btw_iffP {a b x:Int}:btwP a b x=true ↔ a ≤ x∧x ≤ b:=by simp [btwP]
theorem s52P (l:PayList) (hl:l.Rates.length ≤ 1000):f103 ⟨l⟩=some (decide (okRatesP l.Rates∧0 < l.Rates.length)):=by
 refine Yes.eq ?_
 unfold f103
 refine Yes.jn ?_
 show Yes (lp _ big ((0:Int),(0:Int),(0:Int))) _
 refine Yes.upto2 l.Rates.length (by omega) (fun i s t => (∀ j (h : j < l.Rates.length), j < i → okAtP l.Rates j h) ∧ (i = 0 → s = 0 ∧ t = 0) ∧ ∀ (h : 0 < i) (h2 : i ≤ l.Rates.length), s = (l.Rates[i - 1]'(by omega)).From + 1 ∧ t = 1000)
  ⟨fun _ _ h=>absurd h (Nat.not_lt_zero _),fun _=>⟨rfl,rfl⟩,fun h=>absurd h (Nat.lt_irrefl _)⟩ (fun i s t k hi hI hk=>?_) (fun s t k hI=>?_)
 ·obtain ⟨hok, hz, hp⟩ := hI
  refine qtakeP (by simp; omega) (Yes.jn (Yes.bind (Yes.idx rfl hi (Yes.jn (Yes.bind ?_)))))
  have fin:okAtP l.Rates i hi→Yes (k (w64 (l.Rates[i].From + 1),(1000:Int),w64 ((i:Int) + 1))) (fun r=>r=decide (okRatesP l.Rates∧0 < l.Rates.length)):=fun ho=>by
   have hb:=btw_iffP.1 ho.1
   rw [qw64P (n:=l.Rates[i].From + 1) (by omega) (by omega)]
   refine hk _ _ ⟨fun j hj hji=>?_,fun h=>absurd h (by omega),fun _ _=>⟨by simp,rfl⟩⟩
   rcases Nat.lt_succ_iff_lt_or_eq.1 hji with h | rfl
   ·exact hok j hj h
   ·exact ho
  have bad:¬ okAtP l.Rates i hi→(false:Bool)=decide (okRatesP l.Rates∧0 < l.Rates.length):=fun hn=>by
   rw [eq_comm,decide_eq_false_iff_not]; exact fun h=>hn (h.1 i hi)
  rw [s54_oneP]
  have hs:btwP s t l.Rates[i].From=true ↔ btwP 0 1000 l.Rates[i].From=true∧(i=0→l.Rates[i].From=0)∧∀ _:0 < i,(l.Rates[i - 1]'(by omega)).From < l.Rates[i].From:=by
   rw [btw_iffP,btw_iffP]
   rcases Nat.eq_zero_or_pos i with h0 | h0
   ·obtain ⟨rfl, rfl⟩ := hz h0
    constructor
    ·intro h; exact ⟨by omega,fun _=>by omega,fun h2=>absurd h2 (by omega)⟩
    ·intro h; have:=h.2.1 h0; omega
   ·obtain ⟨rfl, rfl⟩ := hp h0 (by omega)
    have hb:=btw_iffP.1 (hok (i - 1) (by omega) (by omega)).1
    constructor
    ·intro h; exact ⟨by omega,fun h2=>absurd h2 (by omega),fun _=>by omega⟩
    ·intro h; have:=h.2.2 h0; omega
  refine Yes.bind (Yes.some (Yes.cond (fun h=>Yes.some (qtakeP rfl (Yes.some ?_))) fun h=>?_))
  ·refine bad fun ho => ?_
   have:btwP s t l.Rates[i].From=true:=hs.2 ⟨ho.1,ho.2.2⟩
   rw [this] at h; cases h
  ·have h1 : btwP s t l.Rates[i].From = true := by simpa using h
   obtain ⟨h2,h3⟩:=hs.1 h1
   rw [s54_oneP]
   refine Yes.bind (Yes.some (Yes.some (Yes.cond (fun h4=>Yes.some ?_) fun h4=>fin ⟨h2,by simpa using h4,h3⟩)))
   refine bad fun ho=>?_
   rw [ho.2.1] at h4; cases h4
 ·refine qskipP (by simp) (Yes.some ?_)
  rw [decide_eq_decide]
  exact ⟨fun h=>⟨fun i hi=>hI.1 i hi hi,by simpa using h⟩,fun h=>by have:=h.2; simp; omega⟩
theorem s15P (l:PayList) (h1:l.Rates.length ≤ 1000) (h2:l.Extras.length ≤ 1000):f60 l=some (chkLP l):=by
 refine Yes.eq ?_
 unfold f60
 refine Yes.jn (Yes.bind (Yes.mono (Q':=fun r=>r=decide (long6P l)) ?_ fun r hr=>?_))
 ·refine Yes.cond (fun h => Yes.some ?_) fun h => Yes.some ?_
  ·rw [h,eq_comm,decide_eq_true_eq]; simp at h; exact .inl (by omega)
  ·rw [decide_eq_decide]; simp at h; unfold long6P; omega
 ·subst hr
  refine Yes.cond (fun h=>Yes.some ?_) fun h=>?_
  ·simp only [decide_eq_true_eq] at h; unfold chkLP; rw [if_pos h]
  ·have hn : ¬ long6P l := by simpa using h
   refine Yes.bind (Yes.mono (Q':=fun r=>r=!decide (okListP l)) ?_ fun r hr=>?_)
   ·refine qbindP _ (s52P l h1) (Yes.cond (fun h => Yes.some ?_) fun h => ?_)
    ·have : ¬ okListP l := fun ho => by simp only [Bool.not_eq_true', decide_eq_false_iff_not] at h; exact h ⟨ho.1, ho.2.2.1⟩
     rw [h]; simp [this]
    ·have hr : okRatesP l.Rates ∧ 0 < l.Rates.length := by simpa using h
     rw [s53P _ (by omega)]
     refine Yes.bind (Yes.some (Yes.cond (fun h=>Yes.some ?_) fun h=>?_))
     ·have:¬ okListP l:=fun ho=>by
       have:l.Extras.all (btwP 0 1000)=true:=List.all_eq_true.2 ho.2.1
       rw [this] at h; cases h
      rw [h]; simp [this]
     ·have he : ∀ x ∈ l.Extras, btwP 0 1000 x = true := List.all_eq_true.1 (by simpa using h)
      rw [s54_oneP]
      refine Yes.bind (Yes.some (Yes.cond (fun h=>Yes.some ?_) fun h=>?_))
      ·have : ¬ okListP l := fun ho => by rw [ho.2.2.2.1] at h; cases h
       rw [h]; simp [this]
      ·have hf : btwP 0 1000 l.Fine = true := by simpa using h
       rw [s53P _ (by simp)]
       refine Yes.bind (Yes.some (Yes.some ?_))
       congr 1
       simp only [List.all_cons,List.all_nil,Bool.and_true]
       by_cases hc:btwP 0 1000 l.Cap=true
       ·have : okListP l := ⟨hr.1, he, hr.2, hf, hc⟩
        simp [this,hc]
       ·have : ¬ okListP l := fun ho => hc ho.2.2.2.2
        simp [this]; simpa using hc
   ·subst hr
    refine Yes.cond (fun h=>Yes.some ?_) fun h=>Yes.some ?_
    ·have : ¬ okListP l := by simpa using h
     unfold chkLP; rw [if_neg hn,if_neg this]
    ·have : okListP l := by simpa using h
     unfold chkLP; rw [if_neg hn,if_pos this]
theorem s124P (x y:Int):f164 x y=some (decide (x < y)):=by
 have h:∀ z,f110 z=some false:=fun z=>by simp [f110]
 unfold f164
 rw [h]; rfl
theorem s77P (x y:Int):f66 x y=some (if x < y then -1 else if y < x then 1 else 0):=by
 have h:∀ z,f110 z=some false:=fun z=>by simp [f110]
 unfold f66
 rw [h,h]
 simp only [Option.bind_some,jn,cond_false]
 by_cases h1:x < y
 ·simp [h1]
 ·by_cases h2 : y < x
  ·simp [h1,h2]
  ·simp [h1,h2]
theorem s104P (r:PayRate) (y:Int):f142 r y=some (if r.From < y then -1 else if y < r.From then 1 else 0):=by unfold f142; rw [s77P]; rfl
def ascP (xs:List Int):Prop:=∀ i (h:i + 1 < xs.length),xs[i] < xs[i + 1]
theorem compact_ascP {xs:List Int} (h:ascP xs):Lib.compact xs=xs:=by
 refine compact_all xs fun j hj=>?_
 unfold keeps
 rw [decide_eq_true_eq]
 by_cases h0:j=0
 ·exact .inl h0
 ·right
  have h1:=h (j - 1) (by omega)
  have e:j - 1 + 1=j:=by omega
  simp only [e] at h1
  rw [getElem!_pos _ j (by simpa using hj),getElem!_pos _ (j - 1) (by simp; omega)]
  simp only [List.getElem_toArray]
  omega
theorem compact_dupP {xs:List Int} {j:Nat} (hj:j < xs.length) (h0:0 < j) (he:xs[j]=xs[j - 1]'(by omega)):(Lib.compact xs).length < xs.length:=by
 unfold compact compactUpTo
 rw [List.length_map,← List.countP_eq_length_filter]
 have h1:List.countP (keeps xs.toArray) (List.range xs.length) ≤ (List.range xs.length).length:=List.countP_le_length
 rw [List.length_range] at h1
 rcases Nat.lt_or_eq_of_le h1 with h2 | h2
 ·exact h2
 ·have h3 := List.countP_eq_length.1 (h2.trans (List.length_range).symm) j (List.mem_range.2 hj)
  unfold keeps at h3
  rw [decide_eq_true_eq] at h3
  rcases h3 with h3 | h3
  ·omega
  ·exact absurd (by rw [getElem!_pos _ j (by simpa using hj),getElem!_pos _ (j - 1) (by simp; omega)]; simpa using he) h3
def srtP (xs:List Int):Prop:=∀ i (h:i + 1 < xs.length),xs[i] ≤ xs[i + 1]
theorem s116gP {xs:List Int} (hl:xs.length ≤ 1000000):f156 xs=some (decide (srtP xs)):=by
 refine Yes.eq ?_
 unfold f156
 refine Yes.jn ?_
 rw [qw64P (n:=(xs.length:Int) - 1) (by omega) (by omega)]
 refine Yes.lp (fun s=>-1 ≤ s∧s ≤ (xs.length:Int) - 1∧∀ i (h:i + 1 < xs.length),s < (i:Int) + 1→xs[i] ≤ xs[i + 1]) (fun s=>(s + 1).toNat) ⟨by omega,by omega,fun i h h2=>absurd h2 (by omega)⟩ (by simp; omega) ?_
 rintro s k ⟨h1,h2,h5⟩ hk
 refine Yes.jn (Yes.cond (fun h3=>?_) (fun h3=>Yes.some ?_))
 ·have h0 : 0 < s := by simpa using h3
  refine Yes.jn (Yes.bind (Yes.idx (n:=s.toNat) (by omega) (by omega) ?_))
  rw [qw64P (n:=s - 1) (by omega) (by omega)]
  refine Yes.bind (Yes.idx (n:=s.toNat - 1) (by omega) (by omega) ?_)
  have e:s.toNat - 1 + 1=s.toNat:=by omega
  refine qbindP _ (s124P _ _) (Yes.cond (fun h6=>Yes.some ?_) (fun h6=>hk _ ⟨by omega,by omega,fun i hi hs=>?_⟩ (by omega)))
  ·rw [eq_comm, decide_eq_false_iff_not]
   intro hc
   have:=hc (s.toNat - 1) (by omega)
   simp only [e] at this
   simp at h6; omega
  ·by_cases hq : i + 1 = s.toNat
   ·have hi' : i = s.toNat - 1 := by omega
    subst hi'
    simp only [e]
    simp at h6; omega
   ·exact h5 i hi (by omega)
 ·have h0 : s ≤ 0 := by simpa using h3
  rw [eq_comm,decide_eq_true_eq]
  exact fun i hi=>h5 i hi (by omega)
theorem not_ascP {xs:List Int} (h:¬ ascP xs):∃ i,∃ h:i + 1 < xs.length,¬ (xs[i]'(Nat.lt_of_succ_lt h) < xs[i + 1]):=by
 obtain ⟨i,hi⟩:=Classical.not_forall.1 h
 obtain ⟨hi,hn⟩:=Classical.not_forall.1 hi
 exact ⟨i,hi,hn⟩
theorem s102gP {xs:List Int} (hl:xs.length ≤ 1000000):f140 xs=some (decide (ascP xs)):=by
 refine Yes.eq ?_
 unfold f140
 refine Yes.bind (qbindP _ (s116gP hl) (Yes.cond (fun h=>?_) (fun h=>Yes.some (Yes.some ?_))))
 ·have hs : srtP xs := by simpa using h
  refine qbindP xs (Yes.eq (by unfold f68; exact Yes.apnd (by simp; omega) (by simp; omega) (by simp))) ?_
  refine qbindP ((Lib.compact xs).length:Int) (by unfold f157 compactN; rw [if_pos (by omega)]) (Yes.some (Yes.some ?_))
  rw [Int.toNat_natCast]
  by_cases ha:ascP xs
  ·rw [compact_ascP ha]; simp [ha]
  ·obtain ⟨i, hi, hn⟩ := not_ascP ha
   have h2:=hs i hi
   have:=compact_dupP (j:=i + 1) hi (Nat.succ_pos i) (Int.le_antisymm (Int.not_lt.1 hn) h2)
   rw [show decide (ascP xs)=false from by simp [ha]]
   clear hs ha hn h2 hl
   simp; omega
 ·have hs : ¬ srtP xs := by simpa using h
  rw [eq_comm,decide_eq_false_iff_not]
  exact fun ha=>hs fun i hi=>Int.le_of_lt (ha i hi)
theorem s102P {xs:List Int} (h:ascP xs) (hl:xs.length ≤ 1000000):f140 xs=some true:=by rw [s102gP hl,decide_eq_true h]

def okPieceP (l:PayList) (p:PayPiece):Prop:=btwP 0 50 p.Weaver=true∧btwP 0 1000 p.Dense=true∧btwP 0 1000000 p.Picks=true∧btwP 0 100 p.Faults=true∧(∀ x ∈ p.Extras,0 ≤ x∧x < (l.Extras.length:Int))∧ascP p.Extras
theorem s79P {l:PayList} {p:PayPiece} (h:okPieceP l p) (h1:p.Extras.length ≤ 1000) (h2:l.Extras.length ≤ 1000):f101 ⟨l⟩ p=some 0:=by
 obtain ⟨ha,hb,hc,hd,he,hf⟩:=h
 refine Yes.eq ?_
 unfold f101
 refine Yes.jn (Yes.bind (Yes.mono (Q':=fun r=>r=false) ?_ fun r hr=>?_))
 ·simp only [s54_oneP,ha,hb,hc,hd]; exact Yes.some rfl
 ·subst hr
  refine qskipP rfl ?_
  rw [qw64P (n:=(l.Extras.length:Int) - 1) (by omega) (by omega),s54P _ _ _ (by omega)]
  have hall:p.Extras.all (btwP 0 ((l.Extras.length:Int) - 1))=true:=List.all_eq_true.2 fun x hx=>btw_iffP.2 (by have:=he x hx; omega)
  rw [hall]
  exact Yes.bind (Yes.some (qskipP rfl (qbindP _ (s102P hf (by omega)) (qskipP rfl (Yes.some rfl)))))
structure LOkP (l : PayList) : Prop where
 ok:okListP l
 r6:l.Rates.length ≤ 6
 e8:l.Extras.length ≤ 8
theorem LOkP.chk {l:PayList} (h:LOkP l):chkLP l=0:=by
 have:¬ long6P l:=fun hl=>by have:=h.r6; have:=h.e8; unfold long6P at hl; omega
 unfold chkLP; rw [if_neg this,if_pos h.ok]
theorem s55P {l:PayList} {p:PayPiece} (h:LOkP l) (hp:okPieceP l p) (h1:p.Extras.length ≤ 1000):f56 l p=some (⟨l⟩,0):=by
 have:=h.r6; have:=h.e8
 refine Yes.eq ?_
 unfold f56
 refine Yes.jn (qbindP _ (s15P l (by omega) (by omega)) (qskipP (by rw [h.chk]; rfl) (qbindP _ (s79P hp h1 (by omega)) (Yes.some rfl))))

def rateFP (d:Int) (a:Int) (r:PayRate):Int:=if r.From ≤ d then r.Rate else a
def rateLP (rs:List PayRate) (d:Int):Int:=rs.foldl (rateFP d) 0
def partFP (ex:List Int) (a x:Int):Int:=a + ex.getD x.toNat 0
def partLP (ex xs:List Int):Int:=xs.foldl (partFP ex) 1000
def earnLP (l:PayList) (p:PayPiece):Int:=p.Picks * rateLP l.Rates p.Dense * partLP l.Extras p.Extras / 1000000
def fineLP (l:PayList) (e n:Int):Int:=min (n * l.Fine) (e * l.Cap / 1000)
def wageLP (l:PayList) (p:PayPiece) (n:Int):Int:=earnLP l p - fineLP l (earnLP l p) n
theorem rate_bound'P (d : Int) : ∀ (rs : List PayRate) (a : Int), (∀ r ∈ rs, btwP 0 10000 r.Rate = true) → 0 ≤ a ∧ a ≤ 10000 → 0 ≤ rs.foldl (rateFP d) a ∧ rs.foldl (rateFP d) a ≤ 10000
 | [],a,_,h=>h
 | r :: rs,a,hr,h=>by
  rw [List.foldl_cons]
  refine rate_bound'P d rs _ (fun x hx=>hr x (by simp [hx])) ?_
  have:=btw_iffP.1 (hr r (by simp))
  unfold rateFP; split <;> omega
theorem rate_boundP {l:PayList} (h:LOkP l) (d:Int):0 ≤ rateLP l.Rates d∧rateLP l.Rates d ≤ 10000:=
 rate_bound'P d _ 0 (fun r hr=>by obtain ⟨i,hi,rfl⟩:=List.getElem_of_mem hr; exact (h.ok.1 i hi).2.1) ⟨by omega,by omega⟩
theorem ex_atP {l:PayList} (h:LOkP l) {x:Int} (hx:0 ≤ x∧x < (l.Extras.length:Int)):idx l.Extras x=some (l.Extras.getD x.toNat 0)∧0 ≤ l.Extras.getD x.toNat 0∧l.Extras.getD x.toNat 0 ≤ 1000:=by
 have hl:x.toNat < l.Extras.length:=by omega
 rw [List.getD_eq_getElem?_getD,List.getElem?_eq_getElem hl,Option.getD_some]
 refine ⟨?_,btw_iffP.1 (h.ok.2.1 _ (List.getElem_mem hl))⟩
 unfold idx; rw [if_pos hx.1]; exact List.getElem?_eq_getElem hl
theorem part_bound'P {l : PayList} (h : LOkP l) : ∀ (xs : List Int) (a : Int), (∀ x ∈ xs, 0 ≤ x ∧ x < (l.Extras.length : Int)) → 0 ≤ a → a ≤ xs.foldl (partFP l.Extras) a ∧ xs.foldl (partFP l.Extras) a ≤ a + 1000 * xs.length
 | [],a,_,h=>by simp
 | x :: xs,a,hx,h0=>by
  obtain ⟨_,h1,h2⟩:=ex_atP h (hx x (by simp))
  rw [List.foldl_cons]
  have:=part_bound'P h xs (partFP l.Extras a x) (fun y hy=>hx y (by simp [hy])) (by unfold partFP; omega)
  unfold partFP at this ⊢
  simp only [List.length_cons]
  omega
theorem part_boundP {l:PayList} (h:LOkP l) {xs:List Int} (hx:∀ x ∈ xs,0 ≤ x∧x < (l.Extras.length:Int)) (hl:xs.length ≤ 1000):1000 ≤ partLP l.Extras xs∧partLP l.Extras xs ≤ 1001000:=by
 have:=part_bound'P h xs 1000 hx (by omega)
 unfold partLP; omega
theorem take_foldP {α β:Type} (F:β→α→β) (xs:List α) (a:β) {i:Nat} (hi:i < xs.length):(xs.take (i + 1)).foldl F a=F ((xs.take i).foldl F a) xs[i]:=by
 rw [List.take_succ_eq_append_getElem hi,List.foldl_append]; rfl
theorem mul_leP {a b A B:Int} (ha:0 ≤ a) (hA:a ≤ A) (hb:0 ≤ b) (hB:b ≤ B):0 ≤ a * b∧a * b ≤ A * B:=
 ⟨Int.mul_nonneg ha hb,Int.mul_le_mul hA hB hb (Int.le_trans ha hA)⟩
theorem earn_allP {l : PayList} {p : PayPiece} (h : LOkP l) (hp : okPieceP l p) (h1 : p.Extras.length ≤ 1000) :
  (0 ≤ p.Picks * rateLP l.Rates p.Dense∧p.Picks * rateLP l.Rates p.Dense ≤ 10000000000)∧(0 ≤ p.Picks * rateLP l.Rates p.Dense * partLP l.Extras p.Extras∧p.Picks * rateLP l.Rates p.Dense * partLP l.Extras p.Extras ≤ 10010000000000000)∧0 ≤ earnLP l p∧earnLP l p ≤ 10010000000:=by
 have hr:=rate_boundP h p.Dense
 have hq:=part_boundP h hp.2.2.2.2.1 h1
 have hk:=btw_iffP.1 hp.2.2.1
 have e1:=mul_leP hk.1 hk.2 hr.1 hr.2
 have e2:=mul_leP e1.1 e1.2 (by omega) hq.2
 refine ⟨⟨e1.1,by omega⟩,⟨e2.1,by omega⟩,?_⟩
 unfold earnLP; omega
theorem half_isP {a b:Nat} (h:a + b < 4611686018427387904) {β:Type} {K:Int→Option β} {Q:β→Prop} (hk:Yes (K (((a + b) / 2:Nat):Int)) Q):Yes ((shr64 (wu64 (w64 ((a:Int) + (b:Int)))) (1:Int)).bind K) Q:=by
 refine Yes.bind (Yes.of (a:=(((a + b) / 2:Nat):Int)) ?_ hk)
 rw [w64_id (by omega) (by omega),show ((a:Int) + (b:Int))=((a + b:Nat):Int) by omega,wu64_idP (by omega) (by omega)]
 unfold shr64
 rw [if_neg (by omega)]
 congr 1
 show Int.fdiv _ (2 ^ (min (Int.toNat 1) 64))=_
 rw [show min (Int.toNat 1) 64=1 by decide,Int.pow_one]
 rw [Int.fdiv_eq_ediv_of_nonneg _ (by omega)]; omega
theorem s103P {rs : List PayRate} (d : Int) (hl : rs.length ≤ 1000) (hs : ∀ i j (hi : i < rs.length) (hj : j < rs.length), i < j → rs[i].From < rs[j].From) :
  Yes (f141 rs d (fun a0 a1=>f142 a0 a1)) fun r=>∃ m:Nat,m ≤ rs.length∧(∀ j (h:j < rs.length),j < m→rs[j].From < d)∧(∀ j (h:j < rs.length),m ≤ j→d ≤ rs[j].From)∧r=((m:Int),decide (∃ h:m < rs.length,rs[m].From=d)):=by
 unfold f141
 refine Yes.bind (Yes.mono (Q':=fun r=>∃ m:Nat,m ≤ rs.length∧(∀ j (h:j < rs.length),j < m→rs[j].From < d)∧(∀ j (h:j < rs.length),m ≤ j→d ≤ rs[j].From)∧r=(m:Int)) ?_ fun r hr=>?_)
 ·refine Yes.lp (fun s => ∃ a b : Nat, s = ((a : Int), (b : Int)) ∧ a ≤ b ∧ b ≤ rs.length ∧ (∀ j (h : j < rs.length), j < a → rs[j].From < d) ∧ (∀ j (h : j < rs.length), b ≤ j → d ≤ rs[j].From)) (fun s => (s.2 - s.1).toNat)
   ⟨0,rs.length,rfl,Nat.zero_le _,Nat.le_refl _,fun _ _ h=>absurd h (Nat.not_lt_zero _),fun j h h2=>absurd h (by omega)⟩ (by simp; omega) ?_
  rintro ⟨s,t⟩ k ⟨a,b,he,hab,hb,h1,h2⟩ hk
  injection he with e1 e2; subst e1; subst e2
  refine Yes.jn (Yes.cond (fun h3=>?_) (fun h3=>Yes.some ?_))
  ·have hlt : a < b := by simp at h3; omega
   have hm:(a + b) / 2 < rs.length:=by omega
   refine half_isP (by omega) ?_
   rw [w64_id (n:=(((a + b) / 2:Nat):Int)) (by omega) (by omega)]
   refine Yes.bind (Yes.idx rfl hm ?_)
   refine qbindP _ (s104P _ _) (Yes.cond (fun h4=>?_) (fun h4=>?_))
   ·have hd:rs[(a + b) / 2].From < d:=by
     by_cases hc:rs[(a + b) / 2].From < d
     ·exact hc
     ·rw [if_neg hc] at h4; split at h4 <;> simp at h4
    rw [w64_id (n:=(((a + b) / 2:Nat):Int) + 1) (by omega) (by omega)]
    refine hk _ ⟨(a + b) / 2 + 1,b,by simp,by omega,hb,fun j hj hjm=>?_,h2⟩ (by simp; omega)
    rcases Nat.lt_succ_iff_lt_or_eq.1 hjm with h | rfl
    ·have:=hs j _ hj hm h; omega
    ·exact hd
   ·have hd:d ≤ rs[(a + b) / 2].From:=by
     by_cases hc:rs[(a + b) / 2].From < d
     ·rw [if_pos hc] at h4; simp at h4
     ·omega
    refine hk _ ⟨a,(a + b) / 2,rfl,by omega,by omega,h1,fun j hj hjm=>?_⟩ (by simp; omega)
    rcases Nat.eq_or_lt_of_le hjm with h | h
    ·subst h; exact hd
    ·have:=hs _ j hm hj h; omega
  ·have : a = b := by simp at h3; omega
   subst this
   exact ⟨a,hb,h1,h2,rfl⟩
 ·obtain ⟨m, hm, h1, h2, rfl⟩ := hr
  refine Yes.bind (Yes.cond (fun h3=>?_) (fun h3=>Yes.some (Yes.some ⟨m,hm,h1,h2,?_⟩)))
  ·have hlt : m < rs.length := by simp at h3; omega
   refine Yes.bind (Yes.idx rfl hlt ?_)
   refine qbindP _ (s104P _ _) (Yes.some (Yes.some ⟨m,hm,h1,h2,?_⟩))
   have hd:=h2 m hlt (Nat.le_refl _)
   congr 1
   rw [if_neg (by omega)]
   by_cases hc:d < rs[m].From
   ·rw [if_pos hc, eq_comm]
    have:¬ ∃ h:m < rs.length,rs[m].From=d:=fun ⟨_,he⟩=>by omega
    simp [this]
   ·rw [if_neg hc, eq_comm]
    have:∃ h:m < rs.length,rs[m].From=d:=⟨hlt,by omega⟩
    simp [this]
  ·have hn : ¬ m < rs.length := by simp at h3; omega
   congr 1
   have:¬ ∃ h:m < rs.length,rs[m].From=d:=fun ⟨h,_⟩=>hn h
   simp [this]
theorem rates_ascP {rs:List PayRate} (h:okRatesP rs):∀ i j (hi:i < rs.length) (hj:j < rs.length),i < j→rs[i].From < rs[j].From:=by
 intro i j hi hj hij
 induction j with
 | zero=>omega
 | succ j ih=>
  have h1:=(h (j + 1) hj).2.2.2 (by omega)
  simp only [Nat.add_sub_cancel] at h1
  rcases Nat.lt_succ_iff_lt_or_eq.1 hij with h2 | rfl
  ·have:=ih (by omega) h2; omega
  ·exact h1
theorem fold_noneP (d : Int) : ∀ (rs : List PayRate) (a : Int), (∀ r ∈ rs, ¬ r.From ≤ d) → rs.foldl (rateFP d) a = a
 | [],_,_=>rfl
 | r :: rs,a,h=>by
  rw [List.foldl_cons]
  rw [show rateFP d a r=a by unfold rateFP; rw [if_neg (h r (by simp))]]
  exact fold_noneP d rs a fun x hx=>h x (by simp [hx])
theorem rate_atP {rs:List PayRate} {d:Int} {e:Nat} (he:e < rs.length) (h1:rs[e].From ≤ d) (h2:∀ j (h:j < rs.length),e < j→d < rs[j].From):rateLP rs d=rs[e].Rate:=by
 unfold rateLP
 have key:rs.foldl (rateFP d) 0=(rs.take (e + 1) ++ rs.drop (e + 1)).foldl (rateFP d) 0:=by rw [List.take_append_drop]
 rw [key,List.foldl_append,take_foldP _ _ _ he,fold_noneP]
 ·unfold rateFP; rw [if_pos h1]
 ·intro r hr
  obtain ⟨j,hj,rfl⟩:=List.getElem_of_mem hr
  rw [List.getElem_drop]
  rw [List.length_drop] at hj
  have:=h2 (e + 1 + j) (by omega) (by omega)
  omega
theorem s80P {l:PayList} (h:LOkP l) {d:Int} (hd:0 ≤ d):f102 ⟨l⟩ d=some (rateLP l.Rates d):=by
 have h6:=h.r6
 have h0:=h.ok.2.2.1
 have hz:=(h.ok.1 0 h0).2.2.1 rfl
 refine Yes.eq ?_
 unfold f102
 dsimp only
 refine Yes.bind (Yes.mono (s103P d (by omega) (rates_ascP h.ok.1)) fun r hr=>?_)
 obtain ⟨m,hm,h1,h2,rfl⟩:=hr
 simp only
 by_cases hf:∃ h:m < l.Rates.length,l.Rates[m].From=d
 ·rw [decide_eq_true hf]
  obtain ⟨hm2,he⟩:=hf
  refine Yes.bind (qskipP rfl (Yes.some (Yes.bind (Yes.idx rfl hm2 (Yes.some ?_)))))
  rw [rate_atP hm2 (by omega) fun j hj hjm=>by have:=rates_ascP h.ok.1 m j hm2 hj hjm; omega]
 ·rw [decide_eq_false hf]
  have hmp:0 < m:=by
   rcases Nat.eq_zero_or_pos m with rfl | h3
   ·have := h2 0 h0 (Nat.le_refl _)
    exact absurd ⟨h0,by omega⟩ hf
   ·exact h3
  rw [w64_id (n:=(m:Int) - 1) (by omega) (by omega)]
  refine Yes.bind (qtakeP rfl (Yes.some (Yes.bind (Yes.idx (n:=m - 1) (by omega) (by omega) (Yes.some ?_)))))
  rw [rate_atP (e:=m - 1) (by omega) (by have:=h1 (m - 1) (by omega) (by omega); omega) fun j hj hjm=>?_]
  have h3:=h2 j hj (by omega)
  rcases Nat.eq_or_lt_of_le (show m ≤ j by omega) with h4 | h4
  ·subst h4
   rcases Int.lt_or_eq_of_le h3 with h5 | h5
   ·exact h5
   ·exact absurd ⟨hj,h5.symm⟩ hf
  ·have := rates_ascP h.ok.1 m j (by omega) hj h4
   have:=h2 m (by omega) (Nat.le_refl _)
   omega
theorem s56P {l:PayList} {p:PayPiece} (h:LOkP l) (hp:okPieceP l p) (h1:p.Extras.length ≤ 1000):f57 ⟨l⟩ p=some (earnLP l p):=by
 obtain ⟨e1,e2,_⟩:=earn_allP h hp h1
 refine Yes.eq ?_
 unfold f57
 refine Yes.bind (Yes.mono (Q':=fun r=>r=partLP l.Extras p.Extras) ?_ fun r hr=>?_)
 ·refine Yes.upto p.Extras.length (by omega) (fun i s => s = (p.Extras.take i).foldl (partFP l.Extras) 1000) rfl (fun i s k hi hI hk => ?_) (fun s k hI => ?_)
  ·have hx := ex_atP h (hp.2.2.2.2.1 _ (List.getElem_mem hi))
   have hb:=part_bound'P h (p.Extras.take i) 1000 (fun x hx=>hp.2.2.2.2.1 x (List.mem_of_mem_take hx)) (by omega)
   rw [← hI,List.length_take] at hb
   refine qtakeP (by simp; omega) (Yes.bind (Yes.bind (Yes.idx rfl hi (qbindP _ hx.1 (Yes.some ?_)))))
   rw [qw64P (by omega) (by omega)]
   refine hk _ ?_
   rw [take_foldP _ _ _ hi,← hI]; rfl
  ·refine qskipP (by simp) (Yes.some ?_)
   rw [hI,List.take_length]; rfl
 ·subst hr
  refine qbindP _ (s80P h (btw_iffP.1 hp.2.1).1) ?_
  rw [w64_id (n:=p.Picks * rateLP l.Rates p.Dense) (by omega) (by omega),w64_id (n:=p.Picks * rateLP l.Rates p.Dense * partLP l.Extras p.Extras) (by omega) (by omega),quo_nnP e2.1 (by omega) (by omega)]
  exact Yes.bind (Yes.some (Yes.some rfl))
theorem fine_allP {l:PayList} (h:LOkP l) {e n:Int} (he:0 ≤ e∧e ≤ 10010000000) (hn:0 ≤ n∧n ≤ 100):(0 ≤ n * l.Fine∧n * l.Fine ≤ 100000)∧(0 ≤ e * l.Cap∧e * l.Cap ≤ 10010000000000)∧e * l.Cap / 1000 ≤ e:=by
 have h1:=btw_iffP.1 h.ok.2.2.2.1
 have h2:=btw_iffP.1 h.ok.2.2.2.2
 have e1:=mul_leP hn.1 hn.2 h1.1 h1.2
 have e2:=mul_leP he.1 he.2 h2.1 h2.2
 have e3:e * l.Cap ≤ e * 1000:=Int.mul_le_mul_of_nonneg_left h2.2 he.1
 exact ⟨⟨e1.1,by omega⟩,⟨e2.1,by omega⟩,by omega⟩
theorem s57P {l:PayList} (h:LOkP l) {e n:Int} (he:0 ≤ e∧e ≤ 10010000000) (hn:0 ≤ n∧n ≤ 100):f58 ⟨l⟩ e n=some (fineLP l e n):=by
 obtain ⟨e1,e2,_⟩:=fine_allP h he hn
 refine Yes.eq ?_
 unfold f58
 simp only
 rw [w64_id (n:=e * l.Cap) (by omega) (by omega),quo_nnP e2.1 (by omega) (by omega),w64_id (n:=n * l.Fine) (by omega) (by omega)]
 exact Yes.bind (Yes.some (Yes.some (min64_eqP _ _)))
theorem fine_boundP {l:PayList} (h:LOkP l) {e n:Int} (he:0 ≤ e∧e ≤ 10010000000) (hn:0 ≤ n∧n ≤ 100):0 ≤ fineLP l e n∧fineLP l e n ≤ e:=by
 obtain ⟨e1,e2,e3⟩:=fine_allP h he hn
 unfold fineLP; omega
theorem wage_boundP {l:PayList} {p:PayPiece} (h:LOkP l) (hp:okPieceP l p) (h1:p.Extras.length ≤ 1000) {n:Int} (hn:0 ≤ n∧n ≤ 100):0 ≤ wageLP l p n∧wageLP l p n ≤ 10010000000:=by
 obtain ⟨_,_,he⟩:=earn_allP h hp h1
 have:=fine_boundP h he hn
 unfold wageLP; omega
theorem s58P {l:PayList} {p:PayPiece} (h:LOkP l) (hp:okPieceP l p) (h1:p.Extras.length ≤ 1000) {n:Int} (hn:0 ≤ n∧n ≤ 100):f59 ⟨l⟩ p n=some (wageLP l p n):=by
 obtain ⟨_,_,he⟩:=earn_allP h hp h1
 have hb:=fine_boundP h he hn
 refine Yes.eq ?_
 unfold f59
 refine qbindP _ (s56P h hp h1) (qbindP _ (s57P h he hn) (Yes.some ?_))
 rw [w64_id (by omega) (by omega)]; rfl
theorem s16P {l:PayList} {p:PayPiece} (h:LOkP l) (hp:okPieceP l p) (h1:p.Extras.length ≤ 1000):f18 l p=some (earnLP l p,fineLP l (earnLP l p) p.Faults,wageLP l p p.Faults,0):=by
 obtain ⟨_,_,he⟩:=earn_allP h hp h1
 have hn:=btw_iffP.1 hp.2.2.2.1
 refine Yes.eq ?_
 unfold f18
 exact qbindP _ (s55P h hp h1) (Yes.jn (qskipP rfl (qbindP _ (s56P h hp h1) (qbindP _ (s57P h he hn) (qbindP _ (s58P h hp h1 hn) (Yes.some rfl))))))
def pNumP (p:PayPiece):Prop:=btwP 0 50 p.Weaver=true∧btwP 0 1000 p.Dense=true∧btwP 0 1000000 p.Picks=true∧btwP 0 100 p.Faults=true
def pExP (l:PayList) (p:PayPiece):Prop:=∀ x ∈ p.Extras,0 ≤ x∧x < (l.Extras.length:Int)
noncomputable def chkPP (l:PayList) (p:PayPiece):Int:=if ¬ pNumP p then 2 else if ¬ pExP l p then 7 else if ¬ ascP p.Extras then 4 else 0
theorem chkP_okP {l:PayList} {p:PayPiece} (h:chkPP l p=0):okPieceP l p:=by
 unfold chkPP at h
 split at h
 ·cases h
 split at h
 ·cases h
 split at h
 ·cases h
 rename_i h1 h2 h3
 have h1:=Classical.not_not.1 h1
 exact ⟨h1.1,h1.2.1,h1.2.2.1,h1.2.2.2,Classical.not_not.1 h2,Classical.not_not.1 h3⟩
theorem s79gP {l:PayList} {p:PayPiece} (h1:p.Extras.length ≤ 1000) (h2:l.Extras.length ≤ 1000):f101 ⟨l⟩ p=some (chkPP l p):=by
 refine Yes.eq ?_
 unfold f101
 refine Yes.jn (Yes.bind (Yes.mono (Q':=fun r=>r=!decide (pNumP p)) ?_ fun r hr=>?_))
 ·simp only [s54_oneP, Option.bind_some]
  unfold pNumP
  cases h3:btwP 0 50 p.Weaver <;> cases h4:btwP 0 1000 p.Dense <;> cases h5:btwP 0 1000000 p.Picks <;> cases h6:btwP 0 100 p.Faults <;> simp <;> exact Yes.some rfl
 ·subst hr
  unfold chkPP
  refine Yes.cond (fun h=>Yes.some ?_) (fun h=>?_)
  ·have : ¬ pNumP p := by simpa using h
   rw [if_pos this]
  have hn:pNumP p:=by simpa using h
  rw [if_neg (by simpa using hn)]
  dsimp only
  rw [qw64P (n:=(l.Extras.length:Int) - 1) (by omega) (by omega),s54P _ _ _ (by omega)]
  refine Yes.bind (Yes.some (Yes.cond (fun h=>Yes.some ?_) (fun h=>?_)))
  ·have:¬ pExP l p:=fun he=>by
    have hall:p.Extras.all (btwP 0 ((l.Extras.length:Int) - 1))=true:=List.all_eq_true.2 fun x hx=>btw_iffP.2 (by have:=he x hx; omega)
    rw [hall] at h; cases h
   rw [if_pos this]
  have he:pExP l p:=fun x hx=>by
   have hall:p.Extras.all (btwP 0 ((l.Extras.length:Int) - 1))=true:=by simpa using h
   have:=btw_iffP.1 (List.all_eq_true.1 hall x hx); omega
  rw [if_neg (by simpa using he)]
  refine qbindP _ (s102gP (by omega)) (Yes.cond (fun h=>Yes.some ?_) (fun h=>Yes.some ?_))
  ·have : ¬ ascP p.Extras := by simpa using h
   rw [if_pos this]
  ·have : ascP p.Extras := by simpa using h
   rw [if_neg (by simpa using this)]
noncomputable def errWP (l:PayList) (p:PayPiece):Int:=if chkLP l ≠ 0 then chkLP l else chkPP l p
theorem s55gP {l:PayList} {p:PayPiece} (h1:p.Extras.length ≤ 1000) (h2:l.Extras.length ≤ 1000) (h3:l.Rates.length ≤ 1000):f56 l p=some (⟨l⟩,errWP l p):=by
 refine Yes.eq ?_
 unfold f56 errWP
 refine Yes.jn (qbindP _ (s15P l h3 h2) (Yes.cond (fun h=>Yes.some ?_) (fun h=>qbindP _ (s79gP h1 h2) (Yes.some ?_))))
 ·rw [if_pos (by simpa using h)]
 ·rw [if_neg (by simpa using h)]
section
variable {κ ν:Type} [DecidableEq κ]
theorem mget_nilP (k:κ):mget ([]:List (κ × ν)) k=none:=rfl
end
section
variable {κ ν:Type} [DecidableEq κ]
theorem mget_consP (p:κ × ν) (m:List (κ × ν)) (k:κ):mget (p :: m) k=if p.1=k then some p.2 else mget m k:=by
 unfold mget
 rw [List.find?_cons]
 by_cases h:p.1=k <;> simp [h]
end
section
variable {κ ν:Type} [DecidableEq κ]
theorem mget_msetP (k : κ) (v : ν) (k' : κ) : ∀ m : List (κ × ν), mget (mset m k v) k' = if k' = k then some v else mget m k'
 | []=>by
  rw [show mset ([]:List (κ × ν)) k v=[(k,v)] from rfl,mget_consP,mget_nilP]
  by_cases h:k'=k
  ·simp [h]
  ·simp [h,Ne.symm h]
 | p :: m=>by
  have ih:=mget_msetP k v k' m
  by_cases hp:p.1=k
  ·rw [show mset (p :: m) k v = (k, v) :: m from if_pos hp, mget_consP, mget_consP]
   by_cases h:k'=k
   ·simp [h]
   ·rw [if_neg (Ne.symm h),if_neg h,if_neg (by rw [hp]; exact Ne.symm h)]
  ·rw [show mset (p :: m) k v = p :: mset m k v from if_neg hp, mget_consP, mget_consP, ih]
   by_cases h:k'=k
   ·subst h; simp [hp]
   ·simp [h]
end
section
variable {κ ν:Type} [DecidableEq κ]
theorem mem_keysP {k : κ} : ∀ {m : List (κ × ν)}, k ∈ m.map (·.1) ↔ (mget m k).isSome = true
 | []=>by simp [mget_nilP]
 | p :: m=>by
  have ih:=mem_keysP (k:=k) (m:=m)
  rw [List.map_cons,List.mem_cons,mget_consP,ih]
  by_cases h:p.1=k
  ·simp [h]
  ·simp [h,Ne.symm h]
end
section
variable {κ ν:Type} [DecidableEq κ]
theorem keys_msetP (k : κ) (v : ν) : ∀ m : List (κ × ν), (mset m k v).map (·.1) = if k ∈ m.map (·.1) then m.map (·.1) else m.map (·.1) ++ [k]
 | []=>rfl
 | p :: m=>by
  have ih:=keys_msetP k v m
  by_cases hp:p.1=k
  ·rw [show mset (p :: m) k v=(k,v) :: m from if_pos hp,List.map_cons,List.map_cons,if_pos (by simp [hp])]; simp [hp]
  ·rw [show mset (p :: m) k v = p :: mset m k v from if_neg hp, List.map_cons, List.map_cons, ih]
   by_cases hk:k ∈ m.map (·.1)
   ·rw [if_pos hk,if_pos (List.mem_cons_of_mem _ hk)]
   ·rw [if_neg hk,if_neg (by rw [List.mem_cons]; exact fun h=>h.elim (fun h=>hp h.symm) hk)]; rfl
end
section
variable {κ ν:Type} [DecidableEq κ]
theorem nodup_msetP {k:κ} {v:ν} {m:List (κ × ν)} (h:(m.map (·.1)).Nodup):((mset m k v).map (·.1)).Nodup:=by
 rw [keys_msetP]
 split
 ·exact h
 ·rename_i hk
  rw [List.nodup_append]
  exact ⟨h,by simp,fun a ha b hb=>by rw [List.mem_singleton.1 hb]; exact fun e=>hk (e ▸ ha)⟩
end
section
variable {κ ν:Type} [DecidableEq κ]
theorem sorted_isP {xs ys:List Int} (h:xs.Perm ys) (hs:ys.Pairwise (· ≤ ·)):xs.mergeSort (fun x y=>decide (x ≤ y))=ys:=by
 rw [mergeSort_of_perm_i h]
 exact List.mergeSort_of_pairwise (hs.imp fun h=>by simpa using h)

end
section
variable {κ ν:Type} [DecidableEq κ]
def rngIP (n:Nat):List Int:=(List.range n).map fun i:Nat=>(i:Int)
end
section
variable {κ ν:Type} [DecidableEq κ]
theorem mem_rngIP {n:Nat} {x:Int}:x ∈ rngIP n ↔ 0 ≤ x∧x < (n:Int):=by
 unfold rngIP
 rw [List.mem_map]
 constructor
 ·rintro ⟨i,hi,rfl⟩; have:=List.mem_range.1 hi; omega
 ·intro h; exact ⟨x.toNat,List.mem_range.2 (by omega),by omega⟩
end
section
variable {κ ν:Type} [DecidableEq κ]
theorem rngI_ascP (n:Nat):(rngIP n).Pairwise (· < ·):=by
 unfold rngIP; rw [List.pairwise_map]
 exact List.pairwise_lt_range.imp fun h=>by omega
end
section
variable {κ ν:Type} [DecidableEq κ]
def hasWP (ps:List PayPiece) (w:Int):Bool:=ps.any fun p=>p.Weaver == w
end
section
variable {κ ν:Type} [DecidableEq κ]
def totWP (l:PayList) (ps:List PayPiece) (w:Int):Int:=((ps.filter fun p=>p.Weaver == w).map fun p=>wageLP l p p.Faults).sum
end
section
variable {κ ν:Type} [DecidableEq κ]
def weavLP (ps:List PayPiece):List Int:=(rngIP 51).filter (hasWP ps)
end
section
variable {κ ν:Type} [DecidableEq κ]
structure OkPsP (l : PayList) (ps : List PayPiece) : Prop where
 lok:LOkP l
 p:∀ p ∈ ps,okPieceP l p∧p.Extras.length ≤ 12
 n:ps.length ≤ 60
end
section
variable {κ ν:Type} [DecidableEq κ]
variable {l:PayList} {ps:List PayPiece}
theorem okp_atP (g:OkPsP l ps) {i:Nat} (h:i < ps.length):okPieceP l ps[i]∧ps[i].Extras.length ≤ 1000∧(0 ≤ ps[i].Faults∧ps[i].Faults ≤ 100)∧(0 ≤ ps[i].Weaver∧ps[i].Weaver ≤ 50)∧(0 ≤ wageLP l ps[i] ps[i].Faults∧wageLP l ps[i] ps[i].Faults ≤ 10010000000):=by
 obtain ⟨h1,h2⟩:=g.p _ (List.getElem_mem h)
 have hf:=btw_iffP.1 h1.2.2.2.1
 exact ⟨h1,by omega,hf,btw_iffP.1 h1.1,wage_boundP g.lok h1 (by omega) hf⟩
end
section
variable {κ ν:Type} [DecidableEq κ]
variable {l:PayList} {ps:List PayPiece}
theorem tot_takeP {i:Nat} (h:i < ps.length) (w:Int):totWP l (ps.take (i + 1)) w=totWP l (ps.take i) w + if ps[i].Weaver=w then wageLP l ps[i] ps[i].Faults else 0:=by
 unfold totWP
 rw [List.take_succ_eq_append_getElem h,List.filter_append,List.map_append,List.sum_append]
 by_cases hw:ps[i].Weaver=w
 ·simp [hw]
 ·simp [hw]
end
section
variable {κ ν:Type} [DecidableEq κ]
variable {l:PayList} {ps:List PayPiece}
theorem has_takeP {i:Nat} (h:i < ps.length) (w:Int):hasWP (ps.take (i + 1)) w=(hasWP (ps.take i) w || decide (ps[i].Weaver=w)):=by
 unfold hasWP
 rw [List.take_succ_eq_append_getElem h,List.any_append]
 simp [Bool.beq_eq_decide_eq]
end
section
variable {κ ν:Type} [DecidableEq κ]
variable {l:PayList} {ps:List PayPiece}
theorem tot_boundP (g : OkPsP l ps) (w : Int) : ∀ i, i ≤ ps.length → 0 ≤ totWP l (ps.take i) w ∧ totWP l (ps.take i) w ≤ 10010000000 * i
 | 0,_=>by simp [totWP]
 | i + 1,h=>by
  have ih:=tot_boundP g w i (by omega)
  have:=(okp_atP g (i:=i) (by omega)).2.2.2.2
  rw [tot_takeP (by omega)]
  split <;> omega
end
section
variable {κ ν:Type} [DecidableEq κ]
variable {l:PayList} {ps:List PayPiece}
theorem tot_noneP {w:Int} (h:hasWP ps w=false):totWP l ps w=0:=by
 unfold totWP
 have:ps.filter (fun p=>p.Weaver == w)=[]:=List.filter_eq_nil_iff.2 fun p hp=>by have:=List.any_eq_false.1 h p hp; simpa using this
 rw [this]; rfl
end
section
variable {κ ν:Type} [DecidableEq κ]
variable {l:PayList} {ps:List PayPiece}
structure MapOfP (l : PayList) (ps : List PayPiece) (m : List (Int × Int)) : Prop where
 nd:(m.map (·.1)).Nodup
 at_:∀ k,mget m k=if hasWP ps k then some (totWP l ps k) else none
end
section
variable {κ ν:Type} [DecidableEq κ]
variable {l:PayList} {ps:List PayPiece}
theorem map_stepP {i : Nat} (h : i < ps.length) {m : List (Int × Int)} (hm : MapOfP l (ps.take i) m) :
  MapOfP l (ps.take (i + 1)) (mset m ps[i].Weaver ((mget m ps[i].Weaver).getD 0 + wageLP l ps[i] ps[i].Faults)):=by
 refine ⟨nodup_msetP hm.nd,fun k=>?_⟩
 have e:(mget m ps[i].Weaver).getD 0=totWP l (ps.take i) ps[i].Weaver:=by
  rw [hm.at_]
  cases hh:hasWP (ps.take i) ps[i].Weaver with
  | true=>rfl
  | false=>rw [tot_noneP hh]; rfl
 rw [mget_msetP,e,has_takeP h,tot_takeP h,hm.at_]
 by_cases hk:k=ps[i].Weaver
 ·subst hk; simp
 ·rw [if_neg hk,if_neg (Ne.symm hk),decide_eq_false (Ne.symm hk),Bool.or_false,Int.add_zero]
end
section
variable {κ ν:Type} [DecidableEq κ]
variable {l:PayList} {ps:List PayPiece}
theorem map_keysP (g:OkPsP l ps) {m:List (Int × Int)} (hm:MapOfP l ps m):keysS m=some (weavLP ps):=by
 have hmem:∀ k,k ∈ m.map (·.1) ↔ k ∈ weavLP ps:=fun k=>by
  rw [mem_keysP,hm.at_]
  unfold weavLP
  rw [List.mem_filter,mem_rngIP]
  cases hh:hasWP ps k with
  | false=>simp
  | true=>
   simp only [if_true,Option.isSome_some,true_iff,and_true]
   obtain ⟨p,hp,hw⟩:=List.any_eq_true.1 hh
   have:=btw_iffP.1 (g.p p hp).1.1
   have hw:p.Weaver=k:=by simpa using hw
   omega
 have hndw:(weavLP ps).Nodup:=((rngI_ascP 51).imp fun h=>by omega:(rngIP 51).Nodup).filter _
 have hperm:(m.map (·.1)).Perm (weavLP ps):=(List.perm_ext_iff_of_nodup hm.nd hndw).2 hmem
 have hlen:(weavLP ps).length ≤ 51:=by unfold weavLP; refine Nat.le_trans (List.length_filter_le _ _) ?_; simp [rngIP]
 unfold keysS
 rw [if_pos]
 ·rw [sorted_isP hperm (((rngI_ascP 51).imp fun h=>by omega:(rngIP 51).Pairwise (· ≤ ·)).filter _)]
 ·refine ⟨?_, hm.nd, fun k hk => ?_⟩
  ·have := hperm.length_eq
   rw [List.length_map] at this; omega
  ·have := List.mem_filter.1 ((hmem k).1 hk)
   have:=mem_rngIP.1 this.1
   omega
end
section
variable {κ ν:Type} [DecidableEq κ]
variable {l:PayList} {ps:List PayPiece}
def FirstBP (l:PayList) (ps:List PayPiece) (i:Nat):Prop:=∃ h:i < ps.length,chkPP l ps[i] ≠ 0∧∀ j (hj:j < i),chkPP l (ps[j]'(by omega))=0
end
section
variable {κ ν:Type} [DecidableEq κ]
variable {l:PayList} {ps:List PayPiece}
variable {l:PayList} {ps:List PayPiece}
theorem errW_okP (h:chkLP l=0) (p:PayPiece):errWP l p=chkPP l p:=by unfold errWP; rw [if_neg (by simpa using h)]
end
section
variable {κ ν:Type} [DecidableEq κ]
variable {l:PayList} {ps:List PayPiece}
variable {l:PayList} {ps:List PayPiece}
theorem lok_ofP (h:chkLP l=0):LOkP l:=by
 unfold chkLP at h
 split at h
 ·cases h
 ·rename_i h6
  split at h
  ·rename_i ho; unfold long6P at h6; exact ⟨ho,by omega,by omega⟩
  ·cases h
end
section
variable {κ ν:Type} [DecidableEq κ]
variable {l:PayList} {ps:List PayPiece}
variable {l:PayList} {ps:List PayPiece}
theorem s27P (h1 : l.Rates.length ≤ 1000) (h2 : l.Extras.length ≤ 1000) (h : chkLP l = 0) (hn : ps.length ≤ 50) (hx : ∀ p ∈ ps, p.Extras.length ≤ 12) :
    Yes (f20 l ps) fun r=>(∃ i,FirstBP l ps i∧∃ hi:i < ps.length,r=([],[],(i:Int),chkPP l ps[i])) ∨ (∀ j (hj:j < ps.length),chkPP l ps[j]=0)∧r=(weavLP ps,(weavLP ps).map (totWP l ps),0,0):=by
  unfold f20
  refine Yes.jn (qbindP _ (s15P l h1 h2) (qskipP (by simp [h]) (Yes.jn (qskipP (by simp; omega) (Yes.jn ?_)))))
  refine Yes.lp (fun s => ∃ i : Nat, s.2.2 = i ∧ i ≤ ps.length ∧ s.1 = [] ∧ (∀ j (hj : j < ps.length), j < i → chkPP l ps[j] = 0) ∧ MapOfP l (ps.take i) s.2.1) (fun s => ps.length - s.2.2.toNat)
    ⟨0,rfl,Nat.zero_le _,rfl,fun _ _ h=>absurd h (Nat.not_lt_zero _),by simp,fun k=>by simp [mget_nilP,hasWP]⟩ (by simp only; omega) ?_
  rintro ⟨a,m,i'⟩ k ⟨i,hi',hile,ha,hok,hm⟩ hk
  simp only at hi' ha hm
  subst hi'; subst ha
  refine Yes.cond (fun hlt=>?_) (fun hlt=>?_)
  · have hi : i < ps.length := by simpa using hlt
    have hxi:=hx _ (List.getElem_mem hi)
    refine Yes.jn (Yes.bind (Yes.idx rfl hi (qbindP _ (s55gP (by omega) h2 h1) (Yes.jn ?_))))
    rw [errW_okP h]
    refine Yes.cond (fun he=>Yes.some (.inl ⟨i,⟨hi,by simpa using he,fun j hj=>hok j (by omega) hj⟩,hi,rfl⟩)) (fun he=>?_)
    have he:chkPP l ps[i]=0:=by simpa using he
    have hall:∀ j (hj:j < ps.length),j < i + 1→chkPP l ps[j]=0:=fun j hj hji=>by
      rcases Nat.lt_succ_iff_lt_or_eq.1 hji with h | rfl
      · exact hok j hj h
      · exact he
    have g:OkPsP l (ps.take (i + 1)):=⟨lok_ofP h,fun p hp=>by
      obtain ⟨j,hj,rfl⟩:=List.getElem_of_mem hp
      rw [List.length_take] at hj
      rw [List.getElem_take]
      exact ⟨chkP_okP (hall j (by omega) (by omega)),hx _ (List.getElem_mem _)⟩,by rw [List.length_take]; omega⟩
    have hit:i < (ps.take (i + 1)).length:=by rw [List.length_take]; omega
    obtain ⟨o1,o2,o3,o4,o5⟩:=okp_atP g hit
    simp only [List.getElem_take] at o1 o2 o3 o4 o5
    refine qbindP _ (s58P g.lok o1 o2 o3) ?_
    have hb:=tot_boundP g ps[i].Weaver i (by omega)
    rw [List.take_take,Nat.min_eq_left (by omega)] at hb
    have hst:=map_stepP hi hm
    have e:(mget m ps[i].Weaver).getD 0=totWP l (ps.take i) ps[i].Weaver:=by
      rw [hm.at_]
      cases hh:hasWP (ps.take i) ps[i].Weaver with
      | true=>rfl
      | false=>rw [tot_noneP hh]; rfl
    rw [w64_id (n:=(i:Int) + 1) (by omega) (by omega),w64_id (n:=(mget m ps[i].Weaver).getD 0 + _) (by rw [e]; omega) (by rw [e]; omega)]
    exact hk _ ⟨i + 1,by simp,hi,rfl,hall,hst⟩ (by simp only; omega)
  · have hi : i = ps.length := by have : ¬ i < ps.length := by simpa using hlt
                                  omega
    subst hi
    rw [List.take_length] at hm
    have g:OkPsP l ps:=⟨lok_ofP h,fun p hp=>by
      obtain ⟨j,hj,rfl⟩:=List.getElem_of_mem hp
      exact ⟨chkP_okP (hok j hj hj),hx _ hp⟩,by omega⟩
    refine qbindP _ (map_keysP g hm) ?_
    have hlw:(weavLP ps).length ≤ 51:=by unfold weavLP; refine Nat.le_trans (List.length_filter_le _ _) ?_; simp [rngIP]
    refine Yes.bind (Yes.mono (Q':=fun r=>r=(weavLP ps).map (totWP l ps)) ?_ fun r hr=>by rw [hr]; exact Yes.some (.inr ⟨fun j hj=>hok j hj hj,rfl⟩))
    refine Yes.upto (weavLP ps).length (by omega) (fun j s=>s=((weavLP ps).take j).map (totWP l ps)) rfl (fun j s k2 hj hI hk2=>?_) (fun s k2 hI=>?_)
    · refine qtakeP (by simp; omega) (Yes.bind (Yes.bind (Yes.idx rfl hj (Yes.bind (Yes.apnd (by simp [hI]; omega) (by simp [hI]; omega) (Yes.some (hk2 _ ?_)))))))
      have hmem:(weavLP ps)[j] ∈ weavLP ps:=List.getElem_mem hj
      have hw:=(List.mem_filter.1 hmem).2
      rw [List.take_succ_eq_append_getElem hj,List.map_append,hI,hm.at_,hw]; rfl
    · exact qskipP (by simp) (Yes.some (by rw [hI,List.take_length]))
end
end Go.Proofs.YtlmibfohllgmeaaGreat
