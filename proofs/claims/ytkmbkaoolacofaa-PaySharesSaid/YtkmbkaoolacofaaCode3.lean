import Derived.Test.YtkmbkaoolacofaaCode2
set_option maxRecDepth 8000
set_option maxHeartbeats 4000000
namespace Go.Proofs.Ytkmbkaoolacofaa
open Go.RowKit
def f14 (x0 : PayList) (x1 : PayPiece) (x2 : Span) : Option (Span × Int) :=
 (f25 x0 x1).bind fun y8 =>
 jn (σ := Span) (fun m7 =>
  (f28 (y8.1) x1 ((x2).High)).bind fun u0 =>
  (f28 (y8.1) x1 ((x2).Low)).bind fun j1 =>
  some ((⟨u0, j1⟩ : Span), (0 : Int))
  ) fun m8 =>
 bif (y8.2 != (0 : Int)) then
  some ((⟨0, 0⟩ : Span), y8.2)
 else
  Option.bind (α := Bool) (
   (f21 ((0 : Int)) ((100 : Int)) (([(x2).Low, (x2).High] : List Int))).bind fun z3 =>
   bif (!z3) then
    some ((!z3))
   else
    some ((decide ((x2).Low > (x2).High)))
   ) fun o0 =>
  bif o0 then
   some ((⟨0, 0⟩ : Span), (3 : Int))
  else
   m8 ((⟨0, 0⟩ : Span))
def f17 (x0 : PayTable) : Option (Bool × Int) :=
 (f32 x0).bind fun y4 =>
 jn (σ := Unit) (fun _ =>
  (f33 (y4.1)).bind fun o0 =>
  (f35 (([o0.1, o0.2.1, ([o0.2.2.1, o0.2.2.2] : List Int)] : List (List Int)))).bind fun q5 =>
  (f34 q5 ((fun a0 => f36 a0))).bind fun o3 =>
  some ((!o3), (0 : Int))
  ) fun k8 =>
 bif (y4.2 != (0 : Int)) then
  some (false, y4.2)
 else
  k8 ()
def f19 (x0 : PayTable) : Option (PayEntry × Int) :=
 (f32 x0).bind fun y5 =>
 jn (σ := PayEntry) (fun m8 =>
  (f33 (y5.1)).bind fun o0 =>
  (f37 (o0.1)).bind fun j1 =>
  (f37 (o0.2.1)).bind fun u0 =>
  jn (σ := PayEntry × Bool) (fun (lC, zB) =>
   jn (σ := PayEntry) (fun vD =>
    some (vD, (0 : Int))
    ) fun cF =>
   bif (!zB) then
    some ((⟨0, 0, 0, 0⟩ : PayEntry), (9 : Int))
   else
    cF (lC)
   ) fun mC =>
  Option.bind (α := Bool) (
   bif (j1.2 == (0 : Int)) then
    bif (u0.2 == (0 : Int)) then
     bif (o0.2.2.1 == (0 : Int)) then
      some ((o0.2.2.2 == (0 : Int)))
     else
      some (false)
    else
     some (false)
   else
    some (false)
   ) fun mA =>
  bif mA then
   some (m8, (0 : Int))
  else
   Option.bind (α := Bool) (
    bif (j1.2 == (1 : Int)) then
     bif (u0.2 == (1 : Int)) then
      bif (o0.2.2.1 == (0 : Int)) then
       bif (o0.2.2.2 == (0 : Int)) then
        (idx (o0.1) j1.1).bind fun qC =>
        (idx (o0.2.1) u0.1).bind fun rC =>
        some ((qC == rC))
       else
        some (false)
      else
       some (false)
     else
      some (false)
    else
     some (false)
    ) fun k9 =>
   bif k9 then
    (idx (((y5.1).PayTable).Rows) j1.1).bind fun dF =>
    (idx dF u0.1).bind fun v6 =>
    (idx (o0.1) j1.1).bind fun x6 =>
    (f21 ((0 : Int)) ((1000000 : Int)) (([(w64 (v6 - x6))] : List Int))).bind fun cD =>
    mC ((⟨(1 : Int), j1.1, u0.1, (w64 (v6 - x6))⟩ : PayEntry), cD)
   else
    Option.bind (α := Bool) (
     bif (j1.2 == (1 : Int)) then
      bif (u0.2 == (0 : Int)) then
       bif (o0.2.2.2 == (0 : Int)) then
        (idx (o0.1) j1.1).bind fun dC =>
        some ((dC == (w64 (0 - o0.2.2.1))))
       else
        some (false)
      else
       some (false)
     else
      some (false)
     ) fun c8 =>
    bif c8 then
     (idx (((y5.1).PayTable).Across) j1.1).bind fun n8 =>
     (idx (o0.1) j1.1).bind fun o8 =>
     mC ((⟨(2 : Int), j1.1, 0, (w64 (n8 + o8))⟩ : PayEntry), true)
    else
     Option.bind (α := Bool) (
      bif (j1.2 == (0 : Int)) then
       bif (u0.2 == (1 : Int)) then
        bif (o0.2.2.1 == (0 : Int)) then
         (idx (o0.2.1) u0.1).bind fun eC =>
         some ((eC == (w64 (0 - o0.2.2.2))))
        else
         some (false)
       else
        some (false)
      else
       some (false)
      ) fun g8 =>
     bif g8 then
      (idx (((y5.1).PayTable).Down) u0.1).bind fun q8 =>
      (idx (o0.2.1) u0.1).bind fun r8 =>
      mC ((⟨(3 : Int), 0, u0.1, (w64 (q8 + r8))⟩ : PayEntry), true)
     else
      Option.bind (α := Bool) (
       bif (j1.2 == (0 : Int)) then
        bif (u0.2 == (0 : Int)) then
         some ((o0.2.2.1 == o0.2.2.2))
        else
         some (false)
       else
        some (false)
       ) fun i8 =>
      bif i8 then
       (f38 (([(w64 (((y5.1).PayTable).Total + o0.2.2.1))] : List Int))).bind fun eD =>
       mC ((⟨(4 : Int), 0, 0, (w64 (((y5.1).PayTable).Total + o0.2.2.1))⟩ : PayEntry), eD)
      else
       mC (m8, false)
  ) fun mJ =>
 bif (y5.2 != (0 : Int)) then
  some ((⟨0, 0, 0, 0⟩ : PayEntry), y5.2)
 else
  mJ ((⟨0, 0, 0, 0⟩ : PayEntry))
def f3 (x0 : Int) (x1 : List Int) : Option (Bool) :=
 jn (σ := Unit) (fun _ =>
  (f6 x1).bind fun aC =>
  (f7 x0 aC).bind fun u0 =>
  jn (σ := Unit) (fun _ =>
   Option.bind (α := Int) (
    (f9 x0 ((0 : Int)) ((1000000000 : Int))).bind fun nA =>
    bif (!nA) then
     some ((3 : Int))
    else
     bif (decide (((x1).length : Int) > (10 : Int))) then
      some ((5 : Int))
     else
      some ((0 : Int))
    ) fun i8 =>
   Option.bind (α := Int × Int) (
    lp (σ := Int × Int × Int) (fun sE (o3, z4, j1) =>
     jn (σ := Unit) (fun _ =>
      Option.bind (α := Int × Int) (
       (idx x1 j1).bind fun cC =>
       (f9 cC ((0 : Int)) ((1000 : Int))).bind fun dC =>
       bif (!dC) then
        some ((2 : Int), z4)
       else
        (idx x1 j1).bind fun oA =>
        some (o3, (w64 (z4 + oA)))
       ) fun (g7, i7) =>
      sE (g7, i7, (w64 (j1 + (1 : Int))))
      ) fun tE =>
     Option.bind (α := Bool) (
      bif (decide (j1 < ((x1).length : Int))) then
       some ((o3 == (0 : Int)))
      else
       some (false)
      ) fun t5 =>
     bif t5 then
      tE ()
     else
      some (o3, z4)
     ) big (i8, (0 : Int), (0 : Int))
    ) fun (u3, x5) =>
   Option.bind (α := Int) (
    Option.bind (α := Bool) (
     bif (u3 == (0 : Int)) then
      some ((x5 == (0 : Int)))
     else
      some (false)
     ) fun l5 =>
    bif l5 then
     some ((2 : Int))
    else
     some (u3)
    ) fun i3 =>
   jn (σ := Unit) (fun _ =>
    Option.bind (α := Bool) (
     bif (u0.2 == (0 : Int)) then
      (f10 x0 x1).bind fun y135 =>
      (f8 (u0.1) y135).bind fun y137 =>
      bif y137 then
       (f5).bind fun k8 =>
       some (k8)
      else
       some (false)
     else
      some (false)
     ) fun y6 =>
    some (y6)
    ) fun eC =>
   bif (i3 != (0 : Int)) then
    Option.bind (α := Bool) (
     bif (u0.2 == i3) then
      bif (((u0.1).length : Int) == (0 : Int)) then
       (f5).bind fun l8 =>
       some (l8)
      else
       some (false)
     else
      some (false)
     ) fun a7 =>
    some (a7)
   else
    eC ()
   ) fun uE =>
  (f8 aC x1).bind fun iC =>
  bif (!iC) then
   some (false)
  else
   uE ()
  ) fun k4 =>
 bif (decide (((x1).length : Int) > (15 : Int))) then
  (f5).bind fun y7 =>
  some (y7)
 else
  k4 ()
theorem wk3 {gI : Gh} {wI : World} {x0 : Int} {x1 : List Int} {up1 : Value} (rp1 : RV gI.m wI x1 up1) {r : Bool} (h : f3 x0 x1 = some r) : Fn Try.prog 3 #[.int .i64 (x0), up1] gI wI (fun _ _ v => v = .bool (r)) := by
 unfold f3 at h
 refine fn_of_E Try.func3 rfl (Nat.le_of_ble_eq_true rfl) fun g0 hm hfr => ?_
 have rp1 : RV g0.m wI x1 up1 := hm ▸ rp1
 show E _ 88 none _ _ _ _ _
 refine E_seq (E_region (EL_at (.bool false) rfl rfl ?_))
 refine EL_nil (thn_n (E_joinC h (fun (s : Unit) e w => ∃ (g : Gh) , Fr gI wI g w ∧ e 0 = .int .i64 (x0) ∧ e 1 = up1 ∧ RV g.m w (x1 : List Int) up1) (fun X4 k4 hk4 h => ?_) ?_))
 ·refine E_seq (E_region (EL_mw up1 rfl rfl ?_))
  refine EL_p (.int .i64 ((x1).length : Int)) (P_len Try.underlying22 rfl rp1) rfl ?_
  refine EL_in (.bool ((decide (((x1).length : Int) > (15 : Int))))) rfl rfl rfl rfl ?_
  refine EL_nil (thn_n ?_)
  rcases csome h with ⟨hc5, h⟩ | ⟨hc5, h⟩
  ·refine E_ct hc5 rfl ?_
   refine E_seq (E_region ?_)
   obtain ⟨y7, xF, h⟩ := bsome h
   refine EL_do .plain rfl (D_call (g := g0) (vs := []) en5 .nil (wk5  xF) fun g6 w6_ v6 hs hr => ?_)
   have hfr := hfr.ext hs
   subst hr
   refine EL_at (.bool (y7)) rfl rfl ?_
   refine EL_nil (thn_n (E_ret (thn_r ?_)))
   obtain rfl := sinj h
   exact end1 rfl rfl (show _ = .bool (y7) from rfl) ⟨_, hfr, rfl⟩
  ·refine E_cf hc5 rfl ?_
   exact E_skip (thn_n (hk4 () _ _ ⟨g0, hfr, rfl, rfl, rp1⟩ h))
 ·rintro _ sH w8 ⟨g8, hfr, jC, bA, q5⟩ h
  refine E_seq (E_region (EL_mv bA rfl ?_))
  obtain ⟨aC, cF, h⟩ := bsome h
  refine EL_do .plain rfl (D_call (g := g8) (vs := [up1]) en6 (.cons rfl .nil) (wk6 q5 cF) fun g9 w9_ v9 hs hr => ?_)
  have hfr := hfr.ext hs
  have q5 := q5.ext hs
  have r9 := hr
  refine EL_at v9 rfl rfl ?_
  refine EL_nil (thn_n (E_seq (E_region (EL_mv jC rfl ?_))))
  refine EL_mw v9 rfl rfl ?_
  obtain ⟨u0, dF, h⟩ := bsome h
  refine EL_do .plain rfl (D_call (g := g9) (vs := [.int .i64 (x0), v9]) en7 (.cons rfl (.cons rfl .nil)) (wk7 r9 dF) fun yF sG tH hs hr => ?_)
  have hfr := hfr.ext hs
  have q5 := q5.ext hs
  have r9 := r9.ext hs
  obtain ⟨o0, iG, rfl, m8, rfl⟩ := hr
  refine EL_mw (.tuple #[o0, .int .i64 (u0.2)]) rfl rfl ?_
  refine EL_p o0 (P_extract rfl rfl) rfl ?_
  refine EL_p (.int .i64 (u0.2)) (P_extract rfl rfl) rfl ?_
  refine EL_at o0 rfl rfl ?_
  refine EL_at (.int .i64 (u0.2)) rfl rfl ?_
  refine EL_nil (thn_n (E_joinC h (fun (s : Unit) e w => ∃ (g : Gh) , Fr gI wI g w ∧ e 0 = .int .i64 (x0) ∧ e 1 = up1 ∧ RV g.m w (x1 : List Int) up1 ∧ e 6 = o0 ∧ RV g.m w (u0.1 : List Int) o0 ∧ e 7 = .int .i64 (u0.2)) (fun X16 uE eF h => ?_) ?_))
  ·refine E_seq (E_region (EL_mw v9 rfl rfl ?_))
   refine EL_mv bA rfl ?_
   obtain ⟨iC, iF, h⟩ := bsome h
   refine EL_do .plain rfl (D_call (g := yF) (vs := [v9, up1]) en8 (.cons rfl (.cons rfl .nil)) (wk8 r9 q5 iF) fun zF tG uH hs hr => ?_)
   have hfr := hfr.ext hs
   have q5 := q5.ext hs
   have m8 := m8.ext hs
   subst hr
   refine EL_p (.bool (!iC)) (P_not rfl) rfl ?_
   refine EL_nil (thn_n ?_)
   rcases csome h with ⟨gA, h⟩ | ⟨gA, h⟩
   ·refine E_ct gA rfl ?_
    refine E_seq (E_region (EL_at (.bool false) rfl rfl ?_))
    refine EL_nil (thn_n (E_ret (thn_r ?_)))
    obtain rfl := sinj h
    exact end1 rfl rfl (show _ = .bool false from rfl) ⟨_, hfr, rfl⟩
   ·refine E_cf gA rfl ?_
    exact E_skip (thn_n (eF () _ _ ⟨zF, hfr, jC, bA, q5, rfl, m8, rfl⟩ h))
  ·rintro _ uG vH ⟨aG, hfr, j7, m7, i6, n8, b7, o8⟩ h
   refine E_seq (E_region (EL_at (.int .i64 (0)) rfl rfl ?_))
   refine EL_at (.int .i64 (0)) rfl rfl ?_
   refine EL_nil (thn_n ?_)
   obtain ⟨i8, hx, h⟩ := bsome h
   refine E_join (fun e w => ∃ (g : Gh) , Fr gI wI g w ∧ e 0 = .int .i64 (x0) ∧ e 1 = up1 ∧ RV g.m w (x1 : List Int) up1 ∧ e 6 = o0 ∧ RV g.m w (u0.1 : List Int) o0 ∧ e 7 = .int .i64 (u0.2) ∧ e 8 = .int .i64 (i8) ∧ e 9 = .int .i64 ((0 : Int))) (fun Q' hQ => ?_) (fun vG xH hR => ?_)
   ·replace h := hx
    clear hx
    refine E_block ?_
    refine E_seq (E_region (EL_mv j7 rfl ?_))
    obtain ⟨nA, nF, h⟩ := bsome h
    refine EL_do .plain rfl (D_call (g := aG) (vs := [.int .i64 (x0), .int .i64 (0), .int .i64 (1000000000)]) en9 (.cons rfl (.cons rfl (.cons rfl .nil))) (wk9  nF) fun kC xG yH hs hr => ?_)
    have hfr := hfr.ext hs
    have i6 := i6.ext hs
    have b7 := b7.ext hs
    subst hr
    refine EL_p (.bool (!nA)) (P_not rfl) rfl ?_
    refine EL_at (.bool (!nA)) rfl rfl ?_
    refine EL_nil (thn_n ?_)
    rcases csome h with ⟨iA, h⟩ | ⟨iA, h⟩
    ·refine E_ct iA rfl ?_
     refine E_region (EL_at (.int .i64 (3)) rfl rfl ?_)
     refine EL_nil (blk_n ?_)
     obtain rfl := sinj h
     exact hQ _ _ ⟨kC, hfr, j7, m7, i6, n8, b7, o8, rfl, rfl⟩
    ·refine E_cf iA rfl ?_
     refine E_seq (E_region (EL_mv m7 rfl ?_))
     refine EL_p (.int .i64 ((x1).length : Int)) (P_len Try.underlying22 rfl i6) rfl ?_
     refine EL_in (.bool ((decide (((x1).length : Int) > (10 : Int))))) rfl rfl rfl rfl ?_
     refine EL_at (.bool ((decide (((x1).length : Int) > (10 : Int))))) rfl rfl ?_
     refine EL_nil (thn_n ?_)
     rcases csome h with ⟨jA, h⟩ | ⟨jA, h⟩
     ·refine E_ct jA rfl ?_
      refine E_region (EL_at (.int .i64 (5)) rfl rfl ?_)
      refine EL_nil (blk_n ?_)
      obtain rfl := sinj h
      exact hQ _ _ ⟨kC, hfr, j7, m7, i6, n8, b7, o8, rfl, rfl⟩
     ·refine E_cf jA rfl ?_
      refine E_skip (blk_n ?_)
      obtain rfl := sinj h
      exact hQ _ _ ⟨kC, hfr, j7, m7, i6, n8, b7, o8, rfl, rfl⟩
   ·clear hx
    obtain ⟨bG, hfr, nD, oD, sD, tD, uD, vD, xD, yD⟩ := hR
    obtain ⟨⟨u3, x5⟩, hx, h⟩ := bsome h
    refine E_join (fun e w => ∃ (g : Gh) , Fr gI wI g w ∧ e 0 = .int .i64 (x0) ∧ e 1 = up1 ∧ RV g.m w (x1 : List Int) up1 ∧ e 6 = o0 ∧ RV g.m w (u0.1 : List Int) o0 ∧ e 7 = .int .i64 (u0.2) ∧ e 8 = .int .i64 (u3) ∧ e 9 = .int .i64 (x5)) (fun Q' hQ => ?_) (fun yG zH hR => ?_)
    ·replace h := hx
     clear hx
     refine E_seq (E_region (EL_at (.int .i64 (0)) rfl rfl ?_))
     refine EL_nil (thn_n (E_block ?_))
     refine E_lp h (fun (s : Int × Int × Int) e w => ∃ (g : Gh) , Fr gI wI g w ∧ e 0 = .int .i64 (x0) ∧ e 1 = up1 ∧ RV g.m w (x1 : List Int) up1 ∧ e 6 = o0 ∧ RV g.m w (u0.1 : List Int) o0 ∧ e 7 = .int .i64 (u0.2) ∧ e 8 = .int .i64 (s.1) ∧ e 9 = .int .i64 (s.2.1) ∧ e 10 = .int .i64 (s.2.2)) ⟨bG, hfr, nD, oD, sD, tD, uD, vD, xD, yD, rfl⟩ (fun X61 sE oF => ?_)
     rintro ⟨o3, z4, j1⟩ zG aI ⟨vE, hfr, pA, q8, r8, qA, rA, uA, t8, xA, u7⟩ h
     refine E_joinC h (fun (s : Unit) e w => ∃ (g : Gh) , Fr gI wI g w ∧ e 0 = .int .i64 (x0) ∧ e 1 = up1 ∧ RV g.m w (x1 : List Int) up1 ∧ e 6 = o0 ∧ RV g.m w (u0.1 : List Int) o0 ∧ e 7 = .int .i64 (u0.2) ∧ e 8 = .int .i64 (o3) ∧ e 9 = .int .i64 (z4) ∧ e 10 = .int .i64 (j1)) (fun X68 tE pF h => ?_) ?_
     ·obtain ⟨t5, hx, h⟩ := bsome h
      refine E_join (fun e w => ∃ (g : Gh) , Fr gI wI g w ∧ e 0 = .int .i64 (x0) ∧ e 1 = up1 ∧ RV g.m w (x1 : List Int) up1 ∧ e 6 = o0 ∧ RV g.m w (u0.1 : List Int) o0 ∧ e 7 = .int .i64 (u0.2) ∧ e 8 = .int .i64 (o3) ∧ e 9 = .int .i64 (z4) ∧ e 10 = .int .i64 (j1) ∧ e 42 = .bool (t5)) (fun Q' hQ => ?_) (fun aH bI hR => ?_)
      ·replace h := hx
       clear hx
       refine E_region (EL_mv u7 rfl ?_)
       refine EL_mv q8 rfl ?_
       refine EL_p (.int .i64 ((x1).length : Int)) (P_len Try.underlying22 rfl r8) rfl ?_
       refine EL_in (.bool ((decide (j1 < ((x1).length : Int))))) rfl rfl rfl rfl ?_
       refine EL_mw (.bool ((decide (j1 < ((x1).length : Int))))) rfl rfl ?_
       rcases csome h with ⟨j6, h⟩ | ⟨j6, h⟩
       ·refine EL_y (.int .i64 (o3)) (P_move t8) rfl rfl j6 rfl ?_
        refine EL_y (.bool ((o3 == (0 : Int)))) (P_int rfl rfl rfl) rfl rfl j6 rfl ?_
        refine EL_p (.bool ((o3 == (0 : Int)))) (P_pick (b := (decide (j1 < ((x1).length : Int)))) rfl (pick_t j6 rfl)) rfl ?_
        refine EL_nil ?_
        obtain rfl := sinj h
        exact hQ _ _ ⟨vE, hfr, pA, q8, r8, qA, rA, uA, t8, xA, u7, rfl⟩
       ·refine EL_s rfl rfl j6 rfl rfl ?_
        refine EL_s rfl rfl j6 rfl rfl ?_
        refine EL_p (.bool false) (P_pick (b := (decide (j1 < ((x1).length : Int)))) rfl (pick_f j6 rfl)) rfl ?_
        refine EL_nil ?_
        obtain rfl := sinj h
        exact hQ _ _ ⟨vE, hfr, pA, q8, r8, qA, rA, uA, t8, xA, u7, rfl⟩
      ·clear hx
       obtain ⟨xE, hfr, yA, zA, aB, bB, cB, dB, eB, iB, lC, d9⟩ := hR
       rcases csome h with ⟨lA, h⟩ | ⟨lA, h⟩
       ·refine E_cond_true (Eq.trans (show ev _ _ = .bool (t5) from d9) (congrArg Value.bool lA)) ?_
        exact E_skip (thn_n (pF () _ _ ⟨xE, hfr, yA, zA, aB, bB, cB, dB, eB, iB, lC⟩ h))
       ·refine E_cond_false (Eq.trans (show ev _ _ = .bool (t5) from d9) (congrArg Value.bool lA)) ?_
        refine E_exit ?_
        refine thn_e ?_
        refine thn_e ?_
        refine blk_hit ?_
        obtain ⟨rfl, rfl⟩ := pairs2 h
        exact hQ _ _ ⟨xE, hfr, yA, zA, aB, bB, cB, dB, eB, iB⟩
     ·rintro _ bH cI ⟨yE, hfr, jB, n7, i5, lB, o7, mB, zD, nB, c7⟩ h
      obtain ⟨⟨g7, i7⟩, hx, h⟩ := bsome h
      refine E_join (fun e w => ∃ (g : Gh) , Fr gI wI g w ∧ e 0 = .int .i64 (x0) ∧ e 1 = up1 ∧ RV g.m w (x1 : List Int) up1 ∧ e 6 = o0 ∧ RV g.m w (u0.1 : List Int) o0 ∧ e 7 = .int .i64 (u0.2) ∧ e 8 = .int .i64 (g7) ∧ e 9 = .int .i64 (i7) ∧ e 10 = .int .i64 (j1)) (fun Q' hQ => ?_) (fun cH dI hR => ?_)
      ·replace h := hx
       clear hx
       refine E_block ?_
       refine E_seq (E_region (EL_mv n7 rfl ?_))
       refine EL_mv c7 rfl ?_
       obtain ⟨cC, mC, h⟩ := bsome h
       refine EL_p (ePtr up1 j1 1) (P_indexAddr (α := Int) Try.underlying22 Try.sizeOf3 rfl i5 rfl mC) rfl ?_
       have cG := PT_idx i5 mC
       refine EL_do .plain rfl (D_load (g := yE) Try.isAgg3 Try.sizeOf3 rfl cG fun iI dG => ?_)
       obtain rfl := RV_int.1 dG
       obtain ⟨dC, qF, h⟩ := bsome h
       refine EL_do .plain rfl (D_call (g := yE) (vs := [.int .i64 (cC), .int .i64 (0), .int .i64 (1000)]) en9 (.cons rfl (.cons rfl (.cons rfl .nil))) (wk9  qF) fun qC dH jI hs hr => ?_)
       have hfr := hfr.ext hs
       have i5 := i5.ext hs
       have o7 := o7.ext hs
       subst hr
       refine EL_p (.bool (!dC)) (P_not rfl) rfl ?_
       refine EL_nil (thn_n ?_)
       rcases csome h with ⟨mA, h⟩ | ⟨mA, h⟩
       ·refine E_ct mA rfl ?_
        refine E_region (EL_at (.int .i64 (2)) rfl rfl ?_)
        refine EL_nil (blk_n ?_)
        obtain ⟨rfl, rfl⟩ := pairs2 h
        exact hQ _ _ ⟨qC, hfr, jB, n7, i5, lB, o7, mB, rfl, nB, c7⟩
       ·refine E_cf mA rfl ?_
        refine E_region (EL_mv nB rfl ?_)
        refine EL_mv n7 rfl ?_
        refine EL_mv c7 rfl ?_
        obtain ⟨oA, rC, h⟩ := bsome h
        refine EL_p (ePtr up1 j1 1) (P_indexAddr (α := Int) Try.underlying22 Try.sizeOf3 rfl i5 rfl rC) rfl ?_
        have eG := PT_idx i5 rC
        refine EL_do .plain rfl (D_load (g := qC) Try.isAgg3 Try.sizeOf3 rfl eG fun kI gG => ?_)
        obtain rfl := RV_int.1 gG
        refine EL_in (.int .i64 ((w64 (z4 + oA)))) rfl rfl rfl rfl ?_
        refine EL_at (.int .i64 ((w64 (z4 + oA)))) rfl rfl ?_
        refine EL_nil (blk_n ?_)
        obtain ⟨rfl, rfl⟩ := pairs2 h
        exact hQ _ _ ⟨qC, hfr, jB, n7, i5, lB, o7, mB, zD, rfl, c7⟩
      ·clear hx
       obtain ⟨hG, hfr, aE, bE, cE, dE, eE, gE, iE, jE, tC⟩ := hR
       refine E_region (EL_mv tC rfl ?_)
       refine EL_in (.int .i64 ((w64 (j1 + (1 : Int))))) rfl rfl rfl rfl ?_
       refine EL_at (.int .i64 ((w64 (j1 + (1 : Int))))) rfl rfl ?_
       exact EL_nil (thn_n (oF (g7, i7, (w64 (j1 + (1 : Int)))) _ _ ⟨hG, hfr, aE, bE, cE, dE, eE, gE, iE, jE, rfl⟩ h))
    ·clear hx
     obtain ⟨zE, hfr, oB, tB, vB, xB, yB, zB, v8, kE⟩ := hR
     obtain ⟨i3, hx, h⟩ := bsome h
     refine E_join (fun e w => ∃ (g : Gh) , Fr gI wI g w ∧ e 0 = .int .i64 (x0) ∧ e 1 = up1 ∧ RV g.m w (x1 : List Int) up1 ∧ e 6 = o0 ∧ RV g.m w (u0.1 : List Int) o0 ∧ e 7 = .int .i64 (u0.2) ∧ e 8 = .int .i64 (i3)) (fun Q' hQ => ?_) (fun jG gH hR => ?_)
     ·replace h := hx
      clear hx
      obtain ⟨l5, hx, h⟩ := bsome h
      refine E_join (fun e w => ∃ (g : Gh) , Fr gI wI g w ∧ e 0 = .int .i64 (x0) ∧ e 1 = up1 ∧ RV g.m w (x1 : List Int) up1 ∧ e 6 = o0 ∧ RV g.m w (u0.1 : List Int) o0 ∧ e 7 = .int .i64 (u0.2) ∧ e 8 = .int .i64 (u3) ∧ e 62 = .bool (l5)) (fun Q' hQ => ?_) (fun kG iH hR => ?_)
      ·replace h := hx
       clear hx
       refine E_region (EL_mv v8 rfl ?_)
       refine EL_in (.bool ((u3 == (0 : Int)))) rfl rfl rfl rfl ?_
       refine EL_mw (.bool ((u3 == (0 : Int)))) rfl rfl ?_
       rcases csome h with ⟨x6, h⟩ | ⟨x6, h⟩
       ·refine EL_y (.int .i64 (x5)) (P_move kE) rfl rfl x6 rfl ?_
        refine EL_y (.bool ((x5 == (0 : Int)))) (P_int rfl rfl rfl) rfl rfl x6 rfl ?_
        refine EL_p (.bool ((x5 == (0 : Int)))) (P_pick (b := (u3 == (0 : Int))) rfl (pick_t x6 rfl)) rfl ?_
        refine EL_nil ?_
        obtain rfl := sinj h
        exact hQ _ _ ⟨zE, hfr, oB, tB, vB, xB, yB, zB, v8, rfl⟩
       ·refine EL_s rfl rfl x6 rfl rfl ?_
        refine EL_s rfl rfl x6 rfl rfl ?_
        refine EL_p (.bool false) (P_pick (b := (u3 == (0 : Int))) rfl (pick_f x6 rfl)) rfl ?_
        refine EL_nil ?_
        obtain rfl := sinj h
        exact hQ _ _ ⟨zE, hfr, oB, tB, vB, xB, yB, zB, v8, rfl⟩
      ·clear hx
       obtain ⟨uC, hfr, e9, i9, k9, l9, n9, o9, vC, c8⟩ := hR
       rcases csome h with ⟨x8, h⟩ | ⟨x8, h⟩
       ·refine E_cond_true (Eq.trans (show ev _ _ = .bool (l5) from c8) (congrArg Value.bool x8)) ?_
        refine E_region (EL_at (.int .i64 (2)) rfl rfl ?_)
        refine EL_nil ?_
        obtain rfl := sinj h
        exact hQ _ _ ⟨uC, hfr, e9, i9, k9, l9, n9, o9, rfl⟩
       ·refine E_cond_false (Eq.trans (show ev _ _ = .bool (l5) from c8) (congrArg Value.bool x8)) ?_
        refine E_skip ?_
        obtain rfl := sinj h
        exact hQ _ _ ⟨uC, hfr, e9, i9, k9, l9, n9, o9, vC⟩
     ·clear hx
      obtain ⟨y8, hfr, xC, yC, aD, t9, u9, y9, z9⟩ := hR
      refine E_joinC h (fun (s : Unit) e w => ∃ (g : Gh) , Fr gI wI g w ∧ e 0 = .int .i64 (x0) ∧ e 1 = up1 ∧ RV g.m w (x1 : List Int) up1 ∧ e 6 = o0 ∧ RV g.m w (u0.1 : List Int) o0 ∧ e 7 = .int .i64 (u0.2)) (fun X113 eC lE h => ?_) ?_
      ·refine E_seq (E_region (EL_mv z9 rfl ?_))
       refine EL_in (.bool ((i3 != (0 : Int)))) rfl rfl rfl rfl ?_
       refine EL_nil (thn_n ?_)
       rcases csome h with ⟨a9, h⟩ | ⟨a9, h⟩
       ·refine E_ct a9 rfl ?_
        obtain ⟨a7, hx, h⟩ := bsome h
        refine E_join (fun e w => ∃ (g : Gh) , Fr gI wI g w ∧ e 4 = .bool (a7)) (fun Q' hQ => ?_) (fun lG jH hR => ?_)
        ·replace h := hx
         clear hx
         refine E_region (EL_mv y9 rfl ?_)
         refine EL_mv z9 rfl ?_
         refine EL_in (.bool ((u0.2 == i3))) rfl rfl rfl rfl ?_
         refine EL_mw (.bool ((u0.2 == i3))) rfl rfl ?_
         rcases csome h with ⟨z3, h⟩ | ⟨z3, h⟩
         ·refine EL_y o0 (P_move t9) rfl rfl z3 rfl ?_
          refine EL_y (.int .i64 ((u0.1).length : Int)) (P_len Try.underlying22 rfl u9) rfl rfl z3 rfl ?_
          refine EL_y (.bool ((((u0.1).length : Int) == (0 : Int)))) (P_int rfl rfl rfl) rfl rfl z3 rfl ?_
          refine EL_p (.bool ((((u0.1).length : Int) == (0 : Int)))) (P_pick (b := (u0.2 == i3)) rfl (pick_t z3 rfl)) rfl ?_
          refine EL_mw (.bool ((((u0.1).length : Int) == (0 : Int)))) rfl rfl ?_
          rcases csome h with ⟨d7, h⟩ | ⟨d7, h⟩
          ·obtain ⟨l8, mE, h⟩ := bsome h
           refine EL_do (.yes2 rfl rfl d7) rfl (D_call (g := y8) (vs := []) en5 .nil (wk5  mE) fun rF mG kH hs hr => ?_)
           have hfr := hfr.ext hs
           subst hr
           refine EL_p (.bool (l8)) (P_pick (b := (((u0.1).length : Int) == (0 : Int))) rfl (pick_t d7 rfl)) rfl ?_
           refine EL_at (.bool (l8)) rfl rfl ?_
           refine EL_nil ?_
           obtain rfl := sinj h
           exact hQ _ _ ⟨rF, hfr, rfl⟩
          ·refine EL_s rfl rfl d7 rfl rfl ?_
           refine EL_p (.bool false) (P_pick (b := (((u0.1).length : Int) == (0 : Int))) rfl (pick_f d7 rfl)) rfl ?_
           refine EL_at (.bool false) rfl rfl ?_
           refine EL_nil ?_
           obtain rfl := sinj h
           exact hQ _ _ ⟨y8, hfr, rfl⟩
         ·refine EL_s rfl rfl z3 rfl rfl ?_
          refine EL_s rfl rfl z3 rfl rfl ?_
          refine EL_s rfl rfl z3 rfl rfl ?_
          refine EL_p (.bool false) (P_pick (b := (u0.2 == i3)) rfl (pick_f z3 rfl)) rfl ?_
          refine EL_dead 3 rfl ?_
          refine EL_at (.bool false) rfl rfl ?_
          refine EL_nil ?_
          obtain rfl := sinj h
          exact hQ _ _ ⟨y8, hfr, rfl⟩
        ·clear hx
         obtain ⟨lH, hfr, bD⟩ := hR
         refine E_ret (thn_r ?_)
         obtain rfl := sinj h
         exact end1 rfl rfl (show _ = .bool (a7) from bD) ⟨_, hfr, rfl⟩
       ·refine E_cf a9 rfl ?_
        exact E_skip (thn_n (lE () _ _ ⟨y8, hfr, xC, yC, aD, t9, u9, y9⟩ h))
      ·rintro _ nG mH ⟨cD, hfr, eD, gD, iD, jD, v7, kD⟩ h
       obtain ⟨y6, hx, h⟩ := bsome h
       refine E_join (fun e w => ∃ (g : Gh) , Fr gI wI g w ∧ e 4 = .bool (y6)) (fun Q' hQ => ?_) (fun oG nH hR => ?_)
       ·replace h := hx
        clear hx
        refine E_region (EL_mv kD rfl ?_)
        refine EL_in (.bool ((u0.2 == (0 : Int)))) rfl rfl rfl rfl ?_
        refine EL_mw (.bool ((u0.2 == (0 : Int)))) rfl rfl ?_
        rcases csome h with ⟨j3, h⟩ | ⟨j3, h⟩
        ·refine EL_y o0 (P_move jD) rfl rfl j3 rfl ?_
         refine EL_y (.int .i64 (x0)) (P_move eD) rfl rfl j3 rfl ?_
         refine EL_y up1 (P_move gD) rfl rfl j3 rfl ?_
         obtain ⟨y135, nE, h⟩ := bsome h
         refine EL_do (.yes2 rfl rfl j3) rfl (D_call (g := cD) (vs := [.int .i64 (x0), up1]) en10 (.cons rfl (.cons rfl .nil)) (wk10 iD nE) fun sF pG tF hs hr => ?_)
         have hfr := hfr.ext hs
         have v7 := v7.ext hs
         have uF := hr
         obtain ⟨y137, oE, h⟩ := bsome h
         refine EL_do (.yes2 rfl rfl j3) rfl (D_call (g := sF) (vs := [o0, tF]) en8 (.cons rfl (.cons rfl .nil)) (wk8 v7 uF oE) fun lD qG oH hs hr => ?_)
         have hfr := hfr.ext hs
         subst hr
         refine EL_p (.bool (y137)) (P_pick (b := (u0.2 == (0 : Int))) rfl (pick_t j3 rfl)) rfl ?_
         refine EL_mw (.bool (y137)) rfl rfl ?_
         rcases csome h with ⟨e7, h⟩ | ⟨e7, h⟩
         ·obtain ⟨k8, rE, h⟩ := bsome h
          refine EL_do (.yes2 rfl rfl e7) rfl (D_call (g := lD) (vs := []) en5 .nil (wk5  rE) fun vF rG pH hs hr => ?_)
          have hfr := hfr.ext hs
          subst hr
          refine EL_p (.bool (k8)) (P_pick (b := y137) rfl (pick_t e7 rfl)) rfl ?_
          refine EL_at (.bool (k8)) rfl rfl ?_
          refine EL_nil ?_
          obtain rfl := sinj h
          exact hQ _ _ ⟨vF, hfr, rfl⟩
         ·refine EL_s rfl rfl e7 rfl rfl ?_
          refine EL_p (.bool false) (P_pick (b := y137) rfl (pick_f e7 rfl)) rfl ?_
          refine EL_at (.bool false) rfl rfl ?_
          refine EL_nil ?_
          obtain rfl := sinj h
          exact hQ _ _ ⟨lD, hfr, rfl⟩
        ·refine EL_s rfl rfl j3 rfl rfl ?_
         iterate 4 refine EL_s rfl rfl j3 rfl rfl ?_
         refine EL_p (.bool false) (P_pick (b := (u0.2 == (0 : Int))) rfl (pick_f j3 rfl)) rfl ?_
         refine EL_dead 3 rfl ?_
         refine EL_at (.bool false) rfl rfl ?_
         refine EL_nil ?_
         obtain rfl := sinj h
         exact hQ _ _ ⟨cD, hfr, rfl⟩
       ·clear hx
        obtain ⟨qH, hfr, mD⟩ := hR
        refine E_ret ?_
        obtain rfl := sinj h
        exact end1 rfl rfl (show _ = .bool (y6) from mD) ⟨_, hfr, rfl⟩
end Go.Proofs.Ytkmbkaoolacofaa
