/- Plain laws: a tie of one group, its cloth, the colours of rows. -/
import Derived.Test.YtkfdjkkbnfohjaaGreatBoxT3
set_option maxRecDepth 8000
namespace Go.Proofs.YtkfdjkkbnfohjaaGreat
open Go.RowKit
open Classical

theorem w12 (xs:List Int) (h:xs.length ≤ 1000):f12 xs=some xs:=by
 refine Yes.eq ?_
 unfold f12
 exact Yes.bind (Yes.apnd (by simp; omega) (by simp; omega) (Yes.some rfl))
theorem w43 (x a b:Int):f43 x a b=some (!btw a b x):=by unfold f43 btw; by_cases h1:x < a <;> by_cases h2:x > b <;> simp [h1,h2] <;> omega
theorem w70 (x a b:Int):f70 x a b=some (!btw a b x):=by unfold f70 btw; by_cases h1:x < a <;> by_cases h2:x > b <;> simp [h1,h2] <;> omega
theorem w20 (a b:Int) (xs:List Int) (hl:xs.length < 9223372036854775807) (h:∀ x ∈ xs,a ≤ x∧x ≤ b):f20 a b xs=some true:=by
 unfold f20
 rw [s103 xs _ (fun x=>!btw a b x) hl fun x _=>w43 x a b]
 simp only [Option.bind_some,Option.some.injEq,Bool.not_eq_true',List.any_eq_false]
 exact fun x hx=>by rw [btw_iff.2 (h x hx)]; simp
theorem w47 (a b:Int) (xs:List Int) (hl:xs.length < 9223372036854775807) (h:∀ x ∈ xs,a ≤ x∧x ≤ b):f47 a b xs=some true:=by
 unfold f47
 rw [s103 xs _ (fun x=>!btw a b x) hl fun x _=>w70 x a b]
 simp only [Option.bind_some,Option.some.injEq,Bool.not_eq_true',List.any_eq_false]
 exact fun x hx=>by rw [btw_iff.2 (h x hx)]; simp
theorem shl_small {n:Nat} (h:n ≤ 24):shl64 (1:Int) (n:Int)=some ((2 ^ n:Nat):Int):=by
 unfold shl64
 rw [if_neg (by omega),Int.toNat_natCast,show min n 64=n by omega]
 have h1:2 ^ n ≤ 16777216:=Nat.pow_le_pow_right (n:=2) (by omega) h
 have h2:(1:Int) * 2 ^ n=((2 ^ n:Nat):Int):=by rw [Int.one_mul]; norm_cast
 rw [h2]
 generalize 2 ^ n=b at h1 ⊢
 rw [w64_id (by omega) (by omega)]
theorem wu_id {n:Int} (h1:0 ≤ n) (h2:n ≤ 9223372036854775807):wu64 n=n:=by
 unfold wu64 IntKind.wrap
 simp only [IntKind.bits,IntKind.signed]
 first
  | omega
  | (simp; omega)
def DOk (d:Design):Prop:=∃ n:Nat,d.Hooks=n∧2 ≤ n∧n ≤ 8∧1 ≤ d.Rows.length∧d.Rows.length ≤ 12∧∀ r ∈ d.Rows,0 ≤ r∧r < ((2 ^ n:Nat):Int)
theorem w4 (u:UInt8) (rows:List UInt16) (hr:rows.length ≤ 9223372036854775807):Yes (f4 u rows) DOk:=by
 have hu:(0:Int) ≤ (u.toNat:Int)∧(u.toNat:Int) ≤ 255:=by have:=u.toNat_lt; omega
 unfold f4
 refine qbind _ (rem_nn hu.1 (by omega)) ?_
 obtain ⟨n,hn,h2,h8⟩:∃ n:Nat,w64 ((2:Int) + (u.toNat:Int) % (7:Int))=n∧2 ≤ n∧n ≤ 8:=⟨(2 + (u.toNat:Int) % 7).toNat,by rw [w64_id (by omega) (by omega)]; omega,by omega,by omega⟩
 rw [hn]
 have hp:4 ≤ 2 ^ n:=Nat.pow_le_pow_right (n:=2) (by omega) h2
 refine Yes.bind (Yes.mono (Q':=DOk) ?_ fun d hd=>Yes.some hd)
 refine Yes.upto (max 1 (min rows.length 12)) (by omega) (fun i d=>d.Hooks=n∧d.Rows.length=i∧∀ r ∈ d.Rows,0 ≤ r∧r < ((2 ^ n:Nat):Int)) ⟨rfl,rfl,by simp⟩ (fun i d k hi hI hk=>?_) (fun d k hI=>?_)
 ·obtain ⟨i1, i2, i3⟩ := hI
  have go:(bif ((i:Int) == (0:Int)) then some (true) else bif (decide ((i:Int) < ((rows).length:Int))) then some ((decide ((i:Int) < (12:Int)))) else some (false))=some true:=by
   refine Yes.eq (Yes.cond (fun _=>Yes.some rfl) (fun hc=>?_))
   have h0:¬ (i:Int)=0:=by simpa using hc
   exact qtake (decide_eq_true (by omega)) (Yes.some (decide_eq_true (by omega)))
  refine Yes.jn (qbind true go (qtake rfl (Yes.bind (Yes.bind (Yes.mono (Q':=fun r=>0 ≤ r∧r < ((2 ^ n:Nat):Int)) ?_ fun r hr=>?_)))))
  ·refine Yes.cond (fun hc => ?_) (fun _ => Yes.some (by omega))
   have hlt:i < rows.length:=by have:=of_decide_eq_true hc; omega
   refine qbind _ (qidx hlt) ?_
   rw [i1,wu_id (by omega) (by omega)]
   refine qbind _ (shl_small (by omega)) (qbind _ (rem_nn (by omega) (by omega)) (Yes.some ?_))
   exact ⟨Int.emod_nonneg _ (by omega),Int.emod_lt_of_pos _ (by omega)⟩
  ·refine Yes.bind (Yes.apnd (by rw [i2]; simp; omega) (by rw [i2]; simp; omega) (Yes.some (hk _ ⟨i1, by simp [i2], fun x hx => ?_⟩)))
   rcases List.mem_append.1 hx with hx | hx
   ·exact i3 x hx
   ·rw [List.mem_singleton.1 hx]; exact hr
 ·obtain ⟨i1, i2, i3⟩ := hI
  refine Yes.jn (Yes.bind (qskip ?_ ?_))
  ·exact beq_eq_false_iff_ne.2 (by omega)
  ·refine Yes.cond (fun hc => Yes.some (qskip (decide_eq_false ?_) (Yes.some ⟨n, i1, h2, h8, by omega, by omega, i3⟩))) (fun _ => Yes.some (qskip rfl (Yes.some ⟨n, i1, h2, h8, by omega, by omega, i3⟩)))
   have:=of_decide_eq_true hc
   omega
theorem w8 {d:Design} (h:DOk d):f8 d=some d:=by
 obtain ⟨n,_,_,_,_,h12,_⟩:=h
 refine Yes.eq ?_
 unfold f8
 exact Yes.bind (Yes.apnd (by simp; omega) (by simp; omega) (Yes.some rfl))
theorem w26 {r:Int} (h:0 ≤ r∧r < 256):Yes (f26 r) (fun c=>0 ≤ c∧c ≤ 2):=by
 unfold f26
 refine Yes.bind (Yes.lp (fun s=>0 ≤ s.1∧s.1 < 256∧0 ≤ s.2∧s.2 + s.1 ≤ 256) (fun s=>s.1.toNat) ⟨h.1,h.2,by show (0:Int) ≤ 0; omega,by show 0 + r ≤ 256; omega⟩ (by show r.toNat < _; omega) ?_)
 rintro ⟨a,b⟩ k ⟨h1,h2,h3,h4⟩ hk
 simp only at h1 h2 h3 h4
 refine Yes.jn (Yes.cond (fun hc=>?_) (fun hc=>Yes.some (qbind _ (rem_nn h3 (by omega)) (Yes.some (by omega)))))
 have hc:a > 0:=of_decide_eq_true hc
 refine Yes.bind (qbind _ (rem_nn h1 (by omega)) (Yes.some (qbind _ (quo_nn h1 (by omega) (by omega)) (hk _ ?_ ?_))))
 ·rw [w64_id (by omega) (by omega)]
  exact ⟨by omega,by omega,by omega,by omega⟩
 ·show (a / 2).toNat < a.toNat
  omega
theorem w9 {xs:List Int} (h:xs.length ≤ 12) (hx:∀ r ∈ xs,0 ≤ r∧r < 256):Yes (f9 xs 12) (fun cs=>cs.length=xs.length∧∀ c ∈ cs,0 ≤ c∧c ≤ 2):=by
 unfold f9
 refine Yes.bind (Yes.mono (Q':=fun cs=>cs.length=xs.length∧∀ c ∈ cs,0 ≤ c∧c ≤ 2) ?_ fun cs hcs=>Yes.some hcs)
 refine Yes.upto xs.length (by omega) (fun i cs=>cs.length=i∧∀ c ∈ cs,0 ≤ c∧c ≤ 2) ⟨rfl,by simp⟩ (fun i cs k hi hI hk=>?_) (fun cs k hI=>?_)
 ·refine Yes.jn (Yes.bind (qtake (decide_eq_true (by omega)) (Yes.some (qtake (decide_eq_true (by omega)) (Yes.bind (qbind _ (qidx hi) (Yes.bind ((w26 (hx _ (List.getElem_mem hi))).mono fun c hc => Yes.bind (Yes.apnd (by simp; omega) (by simp; omega) (Yes.some (hk _ ⟨by simp [hI.1], fun x hx => ?_⟩)))))))))))
  rcases List.mem_append.1 hx with hx | hx
  ·exact hI.2 x hx
  ·rw [List.mem_singleton.1 hx]; exact hc
 ·exact Yes.jn (Yes.bind (qskip (decide_eq_false (by omega)) (Yes.some (qskip rfl (Yes.some hI)))))
theorem w22 {H:Nat} (h2:2 ≤ H) (h8:H ≤ 8):Yes (f22 ⟨⟨0,(H:Int) - 1,2,2⟩⟩) (fun l=>(1 ≤ l.length∧l.length ≤ 16)∧∀ a ∈ l,0 ≤ a∧a ≤ (H:Int) - 1):=by
 unfold f22 f46
 refine Yes.bind (Yes.mono (Q':=fun l=>l.length=H∧∀ a ∈ l,0 ≤ a∧a ≤ (H:Int) - 1) ?_ fun l hl=>Yes.bind ?_)
 ·unfold f45 f68
  refine Yes.bind (Yes.bind (Yes.bind (Yes.mono (Q':=fun l=>l.length=H∧∀ a ∈ l,0 ≤ a∧a ≤ (H:Int) - 1) ?_ fun l hl=>Yes.some (Yes.some (Yes.some hl)))))
  unfold f69
  refine Yes.bind (qskip (decide_eq_false (by show ¬ (H:Int) - 1 < 0; omega)) (Yes.some ?_))
  refine Yes.lp (fun s=>0 ≤ s.2∧s.2 ≤ (H:Int) - 1∧(s.1.length:Int)=s.2∧∀ a ∈ s.1,0 ≤ a∧a ≤ (H:Int) - 1) (fun s=>H - s.2.toNat) ⟨by show (0:Int) ≤ 0; omega,by show (0:Int) ≤ (H:Int) - 1; omega,rfl,by simp⟩ (by show H - _ < _; omega) ?_
  rintro ⟨l,i⟩ k ⟨h1,h3,h4,h5⟩ hk
  simp only at h1 h3 h4 h5
  have h6:∀ a ∈ l ++ [i],0 ≤ a∧a ≤ (H:Int) - 1:=fun a ha=>by
   rcases List.mem_append.1 ha with ha | ha
   ·exact h5 a ha
   ·rw [List.mem_singleton.1 ha]; exact ⟨h1,h3⟩
  refine Yes.jn (Yes.bind (Yes.bind (Yes.bind (Yes.apnd (by simp; omega) (by simp; omega) (Yes.some (qskip rfl (Yes.some ?_)))))))
  refine Yes.cond (fun hc=>Yes.some ⟨?_,h6⟩) (fun hc=>hk _ ?_ ?_)
  ·have : i = (H : Int) - 1 := beq_iff_eq.1 hc
   rw [List.length_append]; simp; omega
  ·have : ¬ i = (H : Int) - 1 := fun e => by rw [e] at hc; simp at hc
   rw [w64_id (by omega) (by omega)]
   exact ⟨by show 0 ≤ i + 1; omega,by show i + 1 ≤ _; omega,by rw [List.length_append]; simp; omega,h6⟩
  ·have : ¬ i = (H : Int) - 1 := fun e => by rw [e] at hc; simp at hc
   rw [w64_id (by omega) (by omega)]
   show H - (i + 1).toNat < H - i.toNat
   omega
 ·obtain ⟨l1, l2⟩ := hl
  refine Yes.mono (Q':=fun l=>(1 ≤ l.length∧l.length ≤ 16)∧∀ a ∈ l,0 ≤ a∧a ≤ (H:Int) - 1) ?_ fun r hr=>Yes.some hr
  refine qtake rfl (Yes.lp (fun s=>0 ≤ s.2∧s.2 ≤ (H:Int) - 2∧(s.1.length:Int)=H + (H - 2 - s.2)∧∀ a ∈ s.1,0 ≤ a∧a ≤ (H:Int) - 1) (fun s=>s.2.toNat) ?_ ?_ ?_)
  ·rw [l1, w64_id (by omega) (by omega)]
   exact ⟨by show (0:Int) ≤ (H:Int) - 2; omega,by show (H:Int) - 2 ≤ _; omega,by show (H:Int)=H + (H - 2 - (H - 2)); omega,l2⟩
  ·rw [l1, w64_id (by omega) (by omega)]
   show ((H:Int) - 2).toNat < _
   omega
  ·rintro ⟨s, i⟩ k ⟨h1, h3, h4, h5⟩ hk
   simp only at h1 h3 h4 h5
   refine Yes.jn (Yes.cond (fun hc=>?_) (fun hc=>Yes.some ⟨by omega,h5⟩))
   have hc:i > 0:=of_decide_eq_true hc
   obtain ⟨j,rfl⟩:=Int.eq_ofNat_of_zero_le h1
   have hj:j < s.length:=by omega
   refine Yes.bind (qbind _ (qidx hj) (Yes.bind (Yes.apnd (by simp; omega) (by simp; omega) (Yes.some (hk _ ?_ ?_)))))
   ·rw [w64_id (by omega) (by omega)]
    refine ⟨by show 0 ≤ (j:Int) - 1; omega,by show (j:Int) - 1 ≤ _; omega,by rw [List.length_append]; simp; omega,fun a ha=>?_⟩
    rcases List.mem_append.1 ha with ha | ha
    ·exact h5 a ha
    ·rw [List.mem_singleton.1 ha]; exact h5 _ (List.getElem_mem hj)
   ·rw [w64_id (by omega) (by omega)]
    show ((j:Int) - 1).toNat < (j:Int).toNat
    omega
theorem cpy_len {α:Type} {xs:List α} {l:Nat} {p q:List α} (h:l + min q.length p.length ≤ xs.length):(cpy xs l p q).length=xs.length:=by
 unfold cpy; simp; omega
theorem cpy_mem {α:Type} {xs:List α} {l:Int} {p q:List α} {a:α} (h:a ∈ cpy xs l p q):a ∈ xs ∨ a ∈ q:=by
 unfold cpy at h
 rcases List.mem_append.1 h with h | h
 ·exact .inl (List.mem_of_mem_take h)
 ·rcases List.mem_append.1 h with h | h
  ·exact .inr (List.mem_of_mem_take h)
  ·exact .inl (List.mem_of_mem_drop h)
theorem w21 {xs:List Int} (h1:1 ≤ xs.length) (h16:xs.length ≤ 16):Yes (f21 xs 2) (fun r=>r.length=2 * xs.length∧∀ a ∈ r,a ∈ xs ∨ a=0):=by
 unfold f21
 refine Yes.bind (qskip rfl (Yes.some ?_))
 rw [wu_id (n:=(xs.length:Int)) (by omega) (by omega),wu_id (n:=(2:Int)) (by omega) (by omega)]
 have hm:mulU (xs.length:Int) 2=some (0,2 * (xs.length:Int)):=by
  unfold mulU
  rw [if_pos ⟨by omega,by omega,by omega,by omega⟩]
  congr 2 <;> omega
 refine qbind _ hm (Yes.bind (Yes.bind (qskip rfl (Yes.some (qskip (decide_eq_false (by show ¬ 2 * (xs.length:Int) > _; omega)) (Yes.some ?_))))))
 rw [w64_id (n:=(2 * (xs.length:Int))) (by omega) (by omega)]
 have hk:mks 8 (0:Int) (2 * (xs.length:Int))=some (List.replicate (2 * xs.length) 0):=by
  unfold mks
  rw [if_pos ⟨by omega,by omega,by omega⟩]
  congr 2
 refine qbind _ hk (Yes.bind (Yes.mono (Q':=fun r=>r.length=2 * xs.length∧∀ a ∈ r,a ∈ xs ∨ a=0) ?_ fun r hr=>Yes.some hr))
 refine Yes.lp (fun s=>s.1.length=2 * xs.length∧(∀ a ∈ s.1,a ∈ xs ∨ a=0)∧∃ n:Nat,s.2=n∧1 ≤ n∧n ≤ 2 * xs.length) (fun s=>2 * xs.length - s.2.toNat) ⟨?_,?_,xs.length,?_,h1,by omega⟩ (by show 2 * xs.length - _ < _; omega) ?_
 ·show (cpy _ ((0 : Nat) : Int) _ _).length = _
  rw [cpy_len (by simp; omega)]; simp
 ·intro a ha
  rcases cpy_mem ha with h | h
  ·exact .inr (List.eq_of_mem_replicate h)
  ·exact .inl h
 ·show ((min (xs).length (List.replicate (2 * xs.length) (0 : Int)).length : Nat) : Int) = _
  simp; omega
 ·rintro ⟨s, i⟩ k ⟨e1, e2, n, rfl, n1, n2⟩ hk
  simp only at e1 e2
  refine Yes.jn (Yes.cond (fun hc=>?_) (fun hc=>Yes.some ⟨e1,e2⟩))
  have hc:(n:Int) < (s.length:Int):=of_decide_eq_true hc
  have c1:cut s (n:Int) (s.length:Int)=some (s.drop n):=by
   unfold cut; rw [if_pos ⟨by omega,by omega,by omega⟩]; simp
  have c2:cut s 0 (n:Int)=some (s.take n):=by
   unfold cut; rw [if_pos ⟨by omega,by omega,by omega⟩]; simp
  refine qbind _ c1 (qbind _ c2 (hk _ ⟨?_,fun a ha=>?_,n + min (s.take n).length (s.drop n).length,?_,by omega,?_⟩ ?_))
  ·show (cpy s (n : Int) _ _).length = _
   rw [cpy_len (by simp; omega),e1]
  ·rcases cpy_mem ha with h | h
   ·exact e2 a h
   ·exact e2 a (List.mem_of_mem_take h)
  ·show w64 _ = _
   rw [w64_id (by simp; omega) (by simp; omega)]; simp
  ·simp; omega
  ·show 2 * xs.length - (w64 _).toNat < 2 * xs.length - (n : Int).toNat
   rw [w64_id (by simp; omega) (by simp; omega)]
   simp; omega
def HOk (H:Nat) (h:TieHarness):Prop:=h.Hooks=H∧(1 ≤ h.Warps.length∧h.Warps.length ≤ 96)∧∀ a ∈ h.Warps,0 ≤ a∧a ≤ (H:Int) - 1
theorem w6 {H:Nat} (h2:2 ≤ H) (h8:H ≤ 8):Yes (f6 H [⟨0,(H:Int) - 1,2,2⟩]) (fun r=>r.2.2=0∧HOk H r.1):=by
 have t1:∀ x y z:Int,x ≤ z→z ≤ y→∀ a ∈ ([z]:List Int),x ≤ a∧a ≤ y:=fun x y z h1 h2 a ha=>by rw [List.mem_singleton.1 ha]; exact ⟨h1,h2⟩
 unfold f6
 refine Yes.jn (qbind true (w20 _ _ _ (by simp) (t1 _ _ _ (by omega) (by omega))) (qskip rfl (qskip (decide_eq_false (by simp)) (qskip (by simp) (Yes.jn ?_)))))
 refine Yes.upto2 1 (by omega) (fun i m s=>i=0∧s=[] ∨ i=1∧(1 ≤ s.length∧s.length ≤ 96)∧∀ a ∈ s,0 ≤ a∧a ≤ (H:Int) - 1) (.inl ⟨rfl,rfl⟩) (fun i m s k hi hI hk=>?_) (fun m s k hI=>?_)
 ·rcases hI with ⟨rfl, rfl⟩ | ⟨rfl, _⟩
  ·refine qtake (by simp) (Yes.jn (qbind _ (qidx (i := 0) (by simp)) (Yes.jn ?_)))
   simp only [List.getElem_cons_zero]
   rw [w64_id (n:=(H:Int) - 1) (by omega) (by omega)]
   refine Yes.bind (qbind true (w20 _ _ _ (by simp) fun a ha=>?_) (qskip rfl (qtake rfl (qskip rfl (qbind true (w20 _ _ _ (by simp) (t1 _ _ _ (by omega) (by omega))) (Yes.some (qskip rfl ?_)))))))
   ·rcases List.mem_cons.1 ha with rfl | ha
    ·omega
    ·rw [List.mem_singleton.1 ha]; omega
   ·refine Yes.bind ((w22 h2 h8).mono fun l hl => Yes.bind ((w21 hl.1.1 hl.1.2).mono fun r hr => Yes.bind (Yes.apnd (by simp; omega) (by simp; omega) (qskip (decide_eq_false (by simp; omega)) (hk _ _ (.inr ⟨rfl, by simp; omega, fun a ha => ?_⟩))))))
    rcases hr.2 a (by simpa using ha) with h | h
    ·exact hl.2 a h
    ·omega
  ·omega
 ·rcases hI with ⟨h, _⟩ | ⟨_, h3, h4⟩
  ·omega
  ·exact qskip (by simp) (Yes.some ⟨rfl,rfl,h3,h4⟩)
theorem w23 {H:Nat} {h:TieHarness} (h2:2 ≤ H) (h8:H ≤ 8) (hk:HOk H h):f23 h=some 0:=by
 obtain ⟨k1,k2,k3⟩:=hk
 refine Yes.eq ?_
 unfold f23
 refine Yes.jn (qbind true (w20 _ _ _ (by simp) fun a ha=>by rw [List.mem_singleton.1 ha,k1]; omega) (qskip rfl (qskip (decide_eq_false (by omega)) (qskip ?_ (qbind true (w20 _ _ _ (by omega) fun a ha=>?_) (qskip rfl (Yes.some rfl)))))))
 ·have : ¬ (h.Warps.length : Int) = 0 := by omega
  simpa using this
 ·rw [k1,w64_id (by omega) (by omega)]; exact k3 a ha
theorem w24 {d:Design} (hd:DOk d):f24 d=some 0:=by
 obtain ⟨n,k1,k2,k3,k4,k5,k6⟩:=hd
 have hp:2 ^ n ≤ 2 ^ 8:=Nat.pow_le_pow_right (by omega) k3
 have hp2:2 ^ 2 ≤ 2 ^ n:=Nat.pow_le_pow_right (by omega) k2
 refine Yes.eq ?_
 unfold f24
 refine Yes.jn (qbind true (w47 _ _ _ (by simp) fun a ha=>by rw [List.mem_singleton.1 ha,k1]; omega) (qskip rfl (qskip (decide_eq_false (by omega)) (qskip ?_ ?_))))
 ·have : ¬ (d.Rows.length : Int) = 0 := by omega
  simpa using this
 ·rw [k1]
  refine qbind _ (shl_small (by omega)) (qbind true (w47 _ _ _ (by omega) fun a ha=>?_) (qskip rfl (Yes.some rfl)))
  rw [w64_id (by omega) (by omega)]
  have:=k6 a ha
  omega
theorem w25 {H:Nat} {h:TieHarness} {row:Int} (hk:HOk H h):Yes (f25 ⟨h⟩ row) (fun _=>True):=by
 obtain ⟨k1,k2,k3⟩:=hk
 unfold f25
 refine Yes.bind (Yes.mono (Q':=fun s=>s ≠ []) ?_ fun s hs=>?_)
 ·refine Yes.upto h.Warps.length (by omega) (fun i s => s.length = i) rfl (fun i s k hi hI hk => ?_) (fun s k hI => ?_)
  ·refine qtake (decide_eq_true (by show (i : Int) < (h.Warps.length : Int); omega)) (Yes.bind (Yes.bind (Yes.mono (Q' := fun _ => True) ?_ fun b _ => Yes.bind (Yes.mono (Q' := fun _ => True) ?_ fun c _ => Yes.bind (Yes.apnd (by simp; omega) (by simp; omega) (Yes.some (hk _ (by simp [hI]))))))))
   ·have hw := k3 _ (List.getElem_mem hi)
    unfold f50
    refine qbind _ (qidx hi) (Yes.bind ?_)
    unfold shr64
    rw [if_neg (by omega)]
    exact Yes.some (Yes.some trivial)
   ·unfold f49
    exact Yes.jn (Yes.cond (fun _=>Yes.some trivial) (fun _=>Yes.some trivial))
  ·refine qskip (decide_eq_false (by show ¬ (h.Warps.length : Int) < (h.Warps.length : Int); omega)) (Yes.some fun e => ?_)
   rw [e] at hI
   simp at hI
   omega
 ·have : sbstr s = some ⟨s⟩ := by unfold sbstr; rw [if_neg hs]
  exact qbind _ this (Yes.some trivial)
theorem w7 {H:Nat} {h:TieHarness} {d:Design} (hk:HOk H h) (hd:DOk d) (he:d.Hooks=H):Yes (f7 h d) (fun r=>r.2=0∧r.1.length=d.Rows.length):=by
 have hH:2 ≤ H∧H ≤ 8:=by obtain ⟨n,k1,k2,k3,_⟩:=hd; omega
 have h12:d.Rows.length ≤ 12:=by obtain ⟨_,_,_,_,_,h,_⟩:=hd; exact h
 unfold f7
 refine Yes.jn (qbind _ (w23 hH.1 hH.2 hk) (qskip rfl (Yes.jn (qbind _ (w24 hd) (qskip rfl (qskip ?_ ?_))))))
 ·rw [he,hk.1]; simp
 ·refine Yes.bind (Yes.mono (Q' := fun s => s.length = d.Rows.length) ?_ fun s hs => Yes.some ⟨rfl, hs⟩)
  refine Yes.upto d.Rows.length (by omega) (fun i s=>s.length=i) rfl (fun i s k hi hI hk2=>?_) (fun s k hI=>qskip (decide_eq_false (by omega)) (Yes.some hI))
  exact qtake (decide_eq_true (by omega)) (Yes.bind (qbind _ (qidx hi) (Yes.bind ((w25 hk).mono fun c _=>Yes.bind (Yes.apnd (by simp; omega) (by simp; omega) (Yes.some (hk2 _ (by simp [hI]))))))))
theorem pubTie_ok:f17=some true:=by kernel_rfl
end Go.Proofs.YtkfdjkkbnfohjaaGreat
