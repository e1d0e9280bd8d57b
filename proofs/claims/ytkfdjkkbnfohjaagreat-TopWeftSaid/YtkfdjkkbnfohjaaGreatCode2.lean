import Derived.Test.YtkfdjkkbnfohjaaGreatCode1
set_option maxRecDepth 8000
set_option maxHeartbeats 4000000
namespace Go.Proofs.YtkfdjkkbnfohjaaGreat
open Go.RowKit
def f53 (x0:BoxBoxLoom) (x1:BoxShuttle):Option (Bool):=
 Option.bind (α:=Bool) (
  (f56 ((0:Int)) ((9:Int)) (([(x1).Colour]:List Int))).bind fun x6=>
  bif x6 then
   (f56 ((0:Int)) ((1:Int)) (([(x1).Side]:List Int))).bind fun y6=>
   bif y6 then
    (idx (((x0).BoxLoom).Boxes) (x1).Side).bind fun l8=>
    (f56 ((0:Int)) ((w64 (l8 - (1:Int)))) (([(x1).Box]:List Int))).bind fun m7=>
    bif m7 then
     (f56 ((0:Int)) ((1000:Int)) (([((x1).Yarn).Low,((x1).Yarn).High]:List Int))).bind fun k8=>
     bif k8 then
      some ((decide (((x1).Yarn).Low ≤ ((x1).Yarn).High)))
     else
      some (false)
    else
     some (false)
   else
    some (false)
  else
   some (false)
  ) fun m8=>
 some (m8)
theorem en53:Enters Tryz.prog 53:=enters_of Tryz.func53 (by kernel_rfl) rfl
theorem wk53 {gI:Gh} {wI:World} {x0:BoxBoxLoom} {x1:BoxShuttle} {up0:Value} (rp0:RV gI.m wI x0 up0) {up1:Value} (rp1:RV gI.m wI x1 up1) {r:Bool} (h:f53 x0 x1=some r):Fn Tryz.prog 53 #[up0,up1] gI wI (fun _ _ v=>v=.bool (r)):=by
 unfold f53 at h
 refine fn_of_E Tryz.func53 rfl (Nat.le_of_ble_eq_true rfl) fun g0 hm hfr=>?_
 have rp0:RV g0.m wI x0 up0:=hm ▸ rp0
 have rp1:RV g0.m wI x1 up1:=hm ▸ rp1
 show E _ 48 none _ _ _ _ _
 refine E_seq (E_region (EL_do .plain rfl (D_box (g:=g0) rfl rp0 fun g1 w1 p1 hs q1=>?_)))
 have hfr:=hfr.ext hs
 have rp1:=rp1.ext hs
 refine EL_do .plain rfl (D_box (g:=g1) rfl rp1 fun g2 w2 p2 hs q2=>?_)
 have hfr:=hfr.ext hs
 have q1:=q1.ext hs
 refine EL_at (.bool false) rfl rfl ?_
 refine EL_nil (thn_n ?_)
 obtain ⟨m8,hx,h⟩:=bsome h
 refine E_join (fun e w=>∃ (g:Gh) ,Fr gI wI g w∧e 4=.bool (m8)) (fun Q' hQ=>?_) (fun bE iE hR=>?_)
 ·replace h := hx
  clear hx
  have zB:=PT_field (part_BoxShuttle_0).1 q2
  refine L_load (x:=.tmp 5) Tryz.isAgg3 Tryz.sizeOf3 zB fun lE cC n8=>?_
  obtain rfl:=RV_int.1 cC
  obtain ⟨x6,r8,h⟩:=bsome h
  rcases csome h with ⟨x5,h⟩ | ⟨x5,h⟩
  ·have mC := PT_field (part_BoxShuttle_1).1 q2
   refine L_load (x:=.tmp 10) Tryz.isAgg3 Tryz.sizeOf3 mC fun mE qC x8=>?_
   obtain rfl:=RV_int.1 qC
   obtain ⟨y6,a9,h⟩:=bsome h
   rcases csome h with ⟨u3,h⟩ | ⟨u3,h⟩
   ·have k9 := PT_field (part_BoxBoxLoom_0).1 q1
    have rC:=PT_field (part_BoxLoom_0).1 k9
    refine L_load (x:=.tmp 17) Tryz.isAgg27 Tryz.sizeOf27 rC fun v8 l9 n9=>?_
    have uC:=PT_field (part_BoxShuttle_1).1 q2
    refine L_load (x:=.tmp 19) Tryz.isAgg3 Tryz.sizeOf3 uC fun oE vC u9=>?_
    obtain rfl:=RV_int.1 vC
    obtain ⟨l8,d9,h⟩:=bsome h
    have aD:=PT_idx l9 d9
    refine L_load (x:=.tmp 21) Tryz.isAgg3 Tryz.sizeOf3 aD fun rE bD y9=>?_
    obtain rfl:=RV_int.1 bD
    have cD:=PT_field (part_BoxShuttle_2).1 q2
    refine L_load (x:=.tmp 24) Tryz.isAgg3 Tryz.sizeOf3 cD fun uE eD z9=>?_
    obtain rfl:=RV_int.1 eD
    obtain ⟨m7,bA,h⟩:=bsome h
    rcases csome h with ⟨i6,h⟩ | ⟨i6,h⟩
    ·have rA := PT_field (part_BoxShuttle_3).1 q2
     have gD:=PT_field (part_Span_0).1 rA
     refine L_load (x:=.tmp 31) Tryz.isAgg3 Tryz.sizeOf3 gD fun vE iD dB=>?_
     obtain rfl:=RV_int.1 iD
     have yA:=PT_field (part_BoxShuttle_3).1 q2
     have jD:=PT_field (part_Span_1).1 yA
     refine L_load (x:=.tmp 34) Tryz.isAgg3 Tryz.sizeOf3 jD fun xE lD iB=>?_
     obtain rfl:=RV_int.1 lD
     obtain ⟨k8,lB,h⟩:=bsome h
     rcases csome h with ⟨g8,h⟩ | ⟨g8,h⟩
     ·have mB := PT_field (part_BoxShuttle_3).1 q2
      have nD:=PT_field (part_Span_0).1 mB
      refine L_load (x:=.tmp 41) Tryz.isAgg3 Tryz.sizeOf3 nD fun yE oD vB=>?_
      obtain rfl:=RV_int.1 oD
      have nB:=PT_field (part_BoxShuttle_3).1 q2
      have sD:=PT_field (part_Span_1).1 nB
      refine L_load (x:=.tmp 44) Tryz.isAgg3 Tryz.sizeOf3 sD fun zE tD yB=>?_
      obtain rfl:=RV_int.1 tD
      refine E_drawL (g:=g2) (n:=44) [(2,(fun v g w=>RV g.m w ([(x1).Colour]:List Int) v∧OS 3007 g w 3 ([(x1).Colour]:List Int) v∧FullV v)),(3,(fun v g w=>v=.bool (x6))),(7,(fun v g w=>RV g.m w ([(x1).Side]:List Int) v∧OS 3012 g w 3 ([(x1).Side]:List Int) v∧FullV v)),(8,(fun v g w=>v=.bool (y6))),(21,(fun v g w=>RV g.m w ([(x1).Box]:List Int) v∧OS 3026 g w 3 ([(x1).Box]:List Int) v∧FullV v)),(22,(fun v g w=>v=.bool (m7))),(31,(fun v g w=>RV g.m w ([((x1).Yarn).Low,((x1).Yarn).High]:List Int) v∧OS 3036 g w 3 ([((x1).Yarn).Low,((x1).Yarn).High]:List Int) v∧FullV v)),(32,(fun v g w=>v=.bool (k8)))] [0,1,2,3,4,5,6,7,8,9,10,11,12,13,14,15,16,17,18,19,20,21,22,23,24,25,26,27,28,29,30,31,32,33,34,35,36,37,38,39,40,41,42,43] rfl mixed (by kernel_rfl) (⟨fun _=>up_and up_rv (up_and up_os (up_eq _)),fun _=>up_eq _,fun _=>up_and up_rv (up_and up_os (up_eq _)),fun _=>up_eq _,fun _=>up_and up_rv (up_and up_os (up_eq _)),fun _=>up_eq _,fun _=>up_and up_rv (up_and up_os (up_eq _)),fun _=>up_eq _,trivial⟩) ?_
      refine L_p (fPtr p2 0) rfl rfl (P_fieldAddr at_65_0 rfl (PT.ptr q2)) ?_
      refine L_ld (c:=.int .i64 ((x1).Colour)) rfl rfl .plain (fun _ _ h=>h.ch) n8 rfl ?_
      refine L_do (φ:=fun v g w=>RV g.m w ([(x1).Colour]:List Int) v∧OS 3007 g w 3 ([(x1).Colour]:List Int) v∧FullV v) rfl rfl .plain (fun g w hd=>D_buildSlice (g:=g) 3007 (xs:=([(x1).Colour]:List Int)) (vs:=[.int .i64 ((x1).Colour)]) Tryz.underlying27 Tryz.sizeOf3 Tryz.zeroValue3 rfl rfl (.cons rfl .nil) (RVs.cons (RV_int.2 rfl) RVs.nil) rfl rfl fun g' w' v hs o r hxt hfl=>⟨g',hxt,r,o,hfl⟩) (fun o0 hv=>?_)
      clear hv
      refine L_do (φ:=fun v g w=>v=.bool (x6)) rfl rfl .plain (fun g w hd=>D_call (g:=g) (vs:=[.int .i64 (0),.int .i64 (9),o0]) en56 (.cons rfl (.cons rfl (.cons rfl .nil))) (wk56 (word (A:=fun g w=>RV g.m w ([(x1).Colour]:List Int) o0∧OS 3007 g w 3 ([(x1).Colour]:List Int) o0∧FullV o0) 2 rfl rfl (deps_of hd)).1 r8) fun g' w' v hs hr=>⟨g',hs,hr⟩) (fun iA hv=>?_)
      obtain ⟨_,_,_,rfl⟩:=hv
      refine L_p (.bool (x6)) rfl rfl (P_move rfl) ?_
      refine L_y (fPtr p2 1) rfl rfl rfl rfl x5 (P_fieldAddr at_65_1 rfl (PT.ptr q2)) ?_
      refine L_ld (c:=.int .i64 ((x1).Side)) rfl rfl (.yes2 rfl rfl x5) (fun _ _ h=>h.ch) x8 rfl ?_
      refine L_do (φ:=fun v g w=>RV g.m w ([(x1).Side]:List Int) v∧OS 3012 g w 3 ([(x1).Side]:List Int) v∧FullV v) rfl rfl (.yes2 rfl rfl x5) (fun g w hd=>D_buildSlice (g:=g) 3012 (xs:=([(x1).Side]:List Int)) (vs:=[.int .i64 ((x1).Side)]) Tryz.underlying27 Tryz.sizeOf3 Tryz.zeroValue3 rfl rfl (.cons rfl .nil) (RVs.cons (RV_int.2 rfl) RVs.nil) rfl rfl fun g' w' v hs o r hxt hfl=>⟨g',hxt,r,o,hfl⟩) (fun l5 hv=>?_)
      clear hv
      refine L_do (φ:=fun v g w=>v=.bool (y6)) rfl rfl (.yes2 rfl rfl x5) (fun g w hd=>D_call (g:=g) (vs:=[.int .i64 (0),.int .i64 (1),l5]) en56 (.cons rfl (.cons rfl (.cons rfl .nil))) (wk56 (word (A:=fun g w=>RV g.m w ([(x1).Side]:List Int) l5∧OS 3012 g w 3 ([(x1).Side]:List Int) l5∧FullV l5) 7 rfl rfl (deps_of hd)).1 a9) fun g' w' v hs hr=>⟨g',hs,hr⟩) (fun aB hv=>?_)
      obtain ⟨_,_,_,rfl⟩:=hv
      refine L_p (.bool (y6)) rfl rfl (P_pick (b:=x6) rfl (pick_t x5 rfl)) ?_
      refine L_p (.bool (y6)) rfl rfl (P_move rfl) ?_
      refine L_y (fPtr p1 0) rfl rfl rfl rfl u3 (P_fieldAddr at_83_0 rfl (PT.ptr q1)) ?_
      refine L_y (fPtr (fPtr p1 0) 0) rfl rfl rfl rfl u3 (P_fieldAddr at_33_0 rfl (PT.ptr k9)) ?_
      refine L_ld (c:=v8) rfl rfl (.yes2 rfl rfl u3) (fun _ _ h=>h.ch) n9 rfl ?_
      refine L_y (fPtr p2 1) rfl rfl rfl rfl u3 (P_fieldAddr at_65_1 rfl (PT.ptr q2)) ?_
      refine L_ld (c:=.int .i64 ((x1).Side)) rfl rfl (.yes2 rfl rfl u3) (fun _ _ h=>h.ch) u9 rfl ?_
      refine L_y (ePtr v8 (x1).Side 1) rfl rfl rfl rfl u3 (P_indexAddr (α:=Int) Tryz.underlying27 Tryz.sizeOf3 rfl l9 rfl d9) ?_
      refine L_ld (c:=.int .i64 (l8)) rfl rfl (.yes2 rfl rfl u3) (fun _ _ h=>h.ch) y9 rfl ?_
      refine L_y (.int .i64 ((w64 (l8 - (1:Int))))) rfl rfl rfl rfl u3 (P_int rfl rfl rfl) ?_
      refine L_y (fPtr p2 2) rfl rfl rfl rfl u3 (P_fieldAddr at_65_2 rfl (PT.ptr q2)) ?_
      refine L_ld (c:=.int .i64 ((x1).Box)) rfl rfl (.yes2 rfl rfl u3) (fun _ _ h=>h.ch) z9 rfl ?_
      refine L_do (φ:=fun v g w=>RV g.m w ([(x1).Box]:List Int) v∧OS 3026 g w 3 ([(x1).Box]:List Int) v∧FullV v) rfl rfl (.yes2 rfl rfl u3) (fun g w hd=>D_buildSlice (g:=g) 3026 (xs:=([(x1).Box]:List Int)) (vs:=[.int .i64 ((x1).Box)]) Tryz.underlying27 Tryz.sizeOf3 Tryz.zeroValue3 rfl rfl (.cons rfl .nil) (RVs.cons (RV_int.2 rfl) RVs.nil) rfl rfl fun g' w' v hs o r hxt hfl=>⟨g',hxt,r,o,hfl⟩) (fun t5 hv=>?_)
      clear hv
      refine L_do (φ:=fun v g w=>v=.bool (m7)) rfl rfl (.yes2 rfl rfl u3) (fun g w hd=>D_call (g:=g) (vs:=[.int .i64 (0),.int .i64 ((w64 (l8 - (1:Int)))),t5]) en56 (.cons rfl (.cons rfl (.cons rfl .nil))) (wk56 (word (A:=fun g w=>RV g.m w ([(x1).Box]:List Int) t5∧OS 3026 g w 3 ([(x1).Box]:List Int) t5∧FullV t5) 21 rfl rfl (deps_of hd)).1 bA) fun g' w' v hs hr=>⟨g',hs,hr⟩) (fun oB hv=>?_)
      obtain ⟨_,_,_,rfl⟩:=hv
      refine L_p (.bool (m7)) rfl rfl (P_pick (b:=y6) rfl (pick_t u3 rfl)) ?_
      refine L_p (.bool (m7)) rfl rfl (P_move rfl) ?_
      refine L_y (fPtr p2 3) rfl rfl rfl rfl i6 (P_fieldAddr at_65_3 rfl (PT.ptr q2)) ?_
      refine L_y (fPtr (fPtr p2 3) 0) rfl rfl rfl rfl i6 (P_fieldAddr at_63_0 rfl (PT.ptr rA)) ?_
      refine L_ld (c:=.int .i64 (((x1).Yarn).Low)) rfl rfl (.yes2 rfl rfl i6) (fun _ _ h=>h.ch) dB rfl ?_
      refine L_y (fPtr p2 3) rfl rfl rfl rfl i6 (P_fieldAddr at_65_3 rfl (PT.ptr q2)) ?_
      refine L_y (fPtr (fPtr p2 3) 1) rfl rfl rfl rfl i6 (P_fieldAddr at_63_1 rfl (PT.ptr yA)) ?_
      refine L_ld (c:=.int .i64 (((x1).Yarn).High)) rfl rfl (.yes2 rfl rfl i6) (fun _ _ h=>h.ch) iB rfl ?_
      refine L_do (φ:=fun v g w=>RV g.m w ([((x1).Yarn).Low,((x1).Yarn).High]:List Int) v∧OS 3036 g w 3 ([((x1).Yarn).Low,((x1).Yarn).High]:List Int) v∧FullV v) rfl rfl (.yes2 rfl rfl i6) (fun g w hd=>D_buildSlice (g:=g) 3036 (xs:=([((x1).Yarn).Low,((x1).Yarn).High]:List Int)) (vs:=[.int .i64 (((x1).Yarn).Low),.int .i64 (((x1).Yarn).High)]) Tryz.underlying27 Tryz.sizeOf3 Tryz.zeroValue3 rfl rfl (.cons rfl (.cons rfl .nil)) (RVs.cons (RV_int.2 rfl) (RVs.cons (RV_int.2 rfl) RVs.nil)) rfl rfl fun g' w' v hs o r hxt hfl=>⟨g',hxt,r,o,hfl⟩) (fun i7 hv=>?_)
      clear hv
      refine L_do (φ:=fun v g w=>v=.bool (k8)) rfl rfl (.yes2 rfl rfl i6) (fun g w hd=>D_call (g:=g) (vs:=[.int .i64 (0),.int .i64 (1000),i7]) en56 (.cons rfl (.cons rfl (.cons rfl .nil))) (wk56 (word (A:=fun g w=>RV g.m w ([((x1).Yarn).Low,((x1).Yarn).High]:List Int) i7∧OS 3036 g w 3 ([((x1).Yarn).Low,((x1).Yarn).High]:List Int) i7∧FullV i7) 31 rfl rfl (deps_of hd)).1 lB) fun g' w' v hs hr=>⟨g',hs,hr⟩) (fun uD hv=>?_)
      obtain ⟨_,_,_,rfl⟩:=hv
      refine L_p (.bool (k8)) rfl rfl (P_pick (b:=m7) rfl (pick_t i6 rfl)) ?_
      refine L_p (.bool (k8)) rfl rfl (P_move rfl) ?_
      refine L_y (fPtr p2 3) rfl rfl rfl rfl g8 (P_fieldAddr at_65_3 rfl (PT.ptr q2)) ?_
      refine L_y (fPtr (fPtr p2 3) 0) rfl rfl rfl rfl g8 (P_fieldAddr at_63_0 rfl (PT.ptr mB)) ?_
      refine L_ld (c:=.int .i64 (((x1).Yarn).Low)) rfl rfl (.yes2 rfl rfl g8) (fun _ _ h=>h.ch) vB rfl ?_
      refine L_y (fPtr p2 3) rfl rfl rfl rfl g8 (P_fieldAddr at_65_3 rfl (PT.ptr q2)) ?_
      refine L_y (fPtr (fPtr p2 3) 1) rfl rfl rfl rfl g8 (P_fieldAddr at_63_1 rfl (PT.ptr nB)) ?_
      refine L_ld (c:=.int .i64 (((x1).Yarn).High)) rfl rfl (.yes2 rfl rfl g8) (fun _ _ h=>h.ch) yB rfl ?_
      refine L_y (.bool ((decide (((x1).Yarn).Low ≤ ((x1).Yarn).High)))) rfl rfl rfl rfl g8 (P_int rfl rfl rfl) ?_
      refine L_p (.bool ((decide (((x1).Yarn).Low ≤ ((x1).Yarn).High)))) rfl rfl (P_pick (b:=k8) rfl (pick_t g8 rfl)) ?_
      refine L_p (.bool ((decide (((x1).Yarn).Low ≤ ((x1).Yarn).High)))) rfl rfl (P_assign rfl) ?_
      refine L_nil fun vD cF hall=>?_
      have hs:=hall.1
      have hfr:=hfr.ext hs
      have dF:=(word_all (A:=fun g w=>RV g.m w ([(x1).Colour]:List Int) o0∧OS 3007 g w 3 ([(x1).Colour]:List Int) o0∧FullV o0) 2 rfl hall).1
      have o341:=(word_all (A:=fun g w=>RV g.m w ([(x1).Colour]:List Int) o0∧OS 3007 g w 3 ([(x1).Colour]:List Int) o0∧FullV o0) 2 rfl hall).2.1
      have eF:=(word_all (A:=fun g w=>RV g.m w ([(x1).Side]:List Int) l5∧OS 3012 g w 3 ([(x1).Side]:List Int) l5∧FullV l5) 7 rfl hall).1
      have o346:=(word_all (A:=fun g w=>RV g.m w ([(x1).Side]:List Int) l5∧OS 3012 g w 3 ([(x1).Side]:List Int) l5∧FullV l5) 7 rfl hall).2.1
      have rF:=(word_all (A:=fun g w=>RV g.m w ([(x1).Box]:List Int) t5∧OS 3026 g w 3 ([(x1).Box]:List Int) t5∧FullV t5) 21 rfl hall).1
      have o360:=(word_all (A:=fun g w=>RV g.m w ([(x1).Box]:List Int) t5∧OS 3026 g w 3 ([(x1).Box]:List Int) t5∧FullV t5) 21 rfl hall).2.1
      have sF:=(word_all (A:=fun g w=>RV g.m w ([((x1).Yarn).Low,((x1).Yarn).High]:List Int) i7∧OS 3036 g w 3 ([((x1).Yarn).Low,((x1).Yarn).High]:List Int) i7∧FullV i7) 31 rfl hall).1
      have o370:=(word_all (A:=fun g w=>RV g.m w ([((x1).Yarn).Low,((x1).Yarn).High]:List Int) i7∧OS 3036 g w 3 ([((x1).Yarn).Low,((x1).Yarn).High]:List Int) i7∧FullV i7) 31 rfl hall).2.1
      clear hs hall
      refine EL_nil ?_
      obtain rfl:=sinj h
      exact hQ _ _ ⟨vD,hfr,rfl⟩
     ·refine E_drawL (g := g2) (n := 44) [(2, (fun v g w => RV g.m w ([(x1).Colour] : List Int) v ∧ OS 3007 g w 3 ([(x1).Colour] : List Int) v ∧ FullV v)), (3, (fun v g w => v = .bool (x6))), (7, (fun v g w => RV g.m w ([(x1).Side] : List Int) v ∧ OS 3012 g w 3 ([(x1).Side] : List Int) v ∧ FullV v)), (8, (fun v g w => v = .bool (y6))), (21, (fun v g w => RV g.m w ([(x1).Box] : List Int) v ∧ OS 3026 g w 3 ([(x1).Box] : List Int) v ∧ FullV v)), (22, (fun v g w => v = .bool (m7))), (31, (fun v g w => RV g.m w ([((x1).Yarn).Low, ((x1).Yarn).High] : List Int) v ∧ OS 3036 g w 3 ([((x1).Yarn).Low, ((x1).Yarn).High] : List Int) v ∧ FullV v)), (32, (fun v g w => v = .bool (k8)))] [0, 1, 2, 3, 4, 5, 6, 7, 8, 9, 10, 11, 12, 13, 14, 15, 16, 17, 18, 19, 20, 21, 22, 23, 24, 25, 26, 27, 28, 29, 30, 31, 32, 33, 34, 35, 36, 37, 38, 39, 40, 41, 42, 43] rfl mixed (by kernel_rfl) (⟨fun _ => up_and up_rv (up_and up_os (up_eq _)), fun _ => up_eq _, fun _ => up_and up_rv (up_and up_os (up_eq _)), fun _ => up_eq _, fun _ => up_and up_rv (up_and up_os (up_eq _)), fun _ => up_eq _, fun _ => up_and up_rv (up_and up_os (up_eq _)), fun _ => up_eq _, trivial⟩) ?_
      refine L_p (fPtr p2 0) rfl rfl (P_fieldAddr at_65_0 rfl (PT.ptr q2)) ?_
      refine L_ld (c:=.int .i64 ((x1).Colour)) rfl rfl .plain (fun _ _ h=>h.ch) n8 rfl ?_
      refine L_do (φ:=fun v g w=>RV g.m w ([(x1).Colour]:List Int) v∧OS 3007 g w 3 ([(x1).Colour]:List Int) v∧FullV v) rfl rfl .plain (fun g w hd=>D_buildSlice (g:=g) 3007 (xs:=([(x1).Colour]:List Int)) (vs:=[.int .i64 ((x1).Colour)]) Tryz.underlying27 Tryz.sizeOf3 Tryz.zeroValue3 rfl rfl (.cons rfl .nil) (RVs.cons (RV_int.2 rfl) RVs.nil) rfl rfl fun g' w' v hs o r hxt hfl=>⟨g',hxt,r,o,hfl⟩) (fun o0 hv=>?_)
      clear hv
      refine L_do (φ:=fun v g w=>v=.bool (x6)) rfl rfl .plain (fun g w hd=>D_call (g:=g) (vs:=[.int .i64 (0),.int .i64 (9),o0]) en56 (.cons rfl (.cons rfl (.cons rfl .nil))) (wk56 (word (A:=fun g w=>RV g.m w ([(x1).Colour]:List Int) o0∧OS 3007 g w 3 ([(x1).Colour]:List Int) o0∧FullV o0) 2 rfl rfl (deps_of hd)).1 r8) fun g' w' v hs hr=>⟨g',hs,hr⟩) (fun iA hv=>?_)
      obtain ⟨_,_,_,rfl⟩:=hv
      refine L_p (.bool (x6)) rfl rfl (P_move rfl) ?_
      refine L_y (fPtr p2 1) rfl rfl rfl rfl x5 (P_fieldAddr at_65_1 rfl (PT.ptr q2)) ?_
      refine L_ld (c:=.int .i64 ((x1).Side)) rfl rfl (.yes2 rfl rfl x5) (fun _ _ h=>h.ch) x8 rfl ?_
      refine L_do (φ:=fun v g w=>RV g.m w ([(x1).Side]:List Int) v∧OS 3012 g w 3 ([(x1).Side]:List Int) v∧FullV v) rfl rfl (.yes2 rfl rfl x5) (fun g w hd=>D_buildSlice (g:=g) 3012 (xs:=([(x1).Side]:List Int)) (vs:=[.int .i64 ((x1).Side)]) Tryz.underlying27 Tryz.sizeOf3 Tryz.zeroValue3 rfl rfl (.cons rfl .nil) (RVs.cons (RV_int.2 rfl) RVs.nil) rfl rfl fun g' w' v hs o r hxt hfl=>⟨g',hxt,r,o,hfl⟩) (fun l5 hv=>?_)
      clear hv
      refine L_do (φ:=fun v g w=>v=.bool (y6)) rfl rfl (.yes2 rfl rfl x5) (fun g w hd=>D_call (g:=g) (vs:=[.int .i64 (0),.int .i64 (1),l5]) en56 (.cons rfl (.cons rfl (.cons rfl .nil))) (wk56 (word (A:=fun g w=>RV g.m w ([(x1).Side]:List Int) l5∧OS 3012 g w 3 ([(x1).Side]:List Int) l5∧FullV l5) 7 rfl rfl (deps_of hd)).1 a9) fun g' w' v hs hr=>⟨g',hs,hr⟩) (fun aB hv=>?_)
      obtain ⟨_,_,_,rfl⟩:=hv
      refine L_p (.bool (y6)) rfl rfl (P_pick (b:=x6) rfl (pick_t x5 rfl)) ?_
      refine L_p (.bool (y6)) rfl rfl (P_move rfl) ?_
      refine L_y (fPtr p1 0) rfl rfl rfl rfl u3 (P_fieldAddr at_83_0 rfl (PT.ptr q1)) ?_
      refine L_y (fPtr (fPtr p1 0) 0) rfl rfl rfl rfl u3 (P_fieldAddr at_33_0 rfl (PT.ptr k9)) ?_
      refine L_ld (c:=v8) rfl rfl (.yes2 rfl rfl u3) (fun _ _ h=>h.ch) n9 rfl ?_
      refine L_y (fPtr p2 1) rfl rfl rfl rfl u3 (P_fieldAddr at_65_1 rfl (PT.ptr q2)) ?_
      refine L_ld (c:=.int .i64 ((x1).Side)) rfl rfl (.yes2 rfl rfl u3) (fun _ _ h=>h.ch) u9 rfl ?_
      refine L_y (ePtr v8 (x1).Side 1) rfl rfl rfl rfl u3 (P_indexAddr (α:=Int) Tryz.underlying27 Tryz.sizeOf3 rfl l9 rfl d9) ?_
      refine L_ld (c:=.int .i64 (l8)) rfl rfl (.yes2 rfl rfl u3) (fun _ _ h=>h.ch) y9 rfl ?_
      refine L_y (.int .i64 ((w64 (l8 - (1:Int))))) rfl rfl rfl rfl u3 (P_int rfl rfl rfl) ?_
      refine L_y (fPtr p2 2) rfl rfl rfl rfl u3 (P_fieldAddr at_65_2 rfl (PT.ptr q2)) ?_
      refine L_ld (c:=.int .i64 ((x1).Box)) rfl rfl (.yes2 rfl rfl u3) (fun _ _ h=>h.ch) z9 rfl ?_
      refine L_do (φ:=fun v g w=>RV g.m w ([(x1).Box]:List Int) v∧OS 3026 g w 3 ([(x1).Box]:List Int) v∧FullV v) rfl rfl (.yes2 rfl rfl u3) (fun g w hd=>D_buildSlice (g:=g) 3026 (xs:=([(x1).Box]:List Int)) (vs:=[.int .i64 ((x1).Box)]) Tryz.underlying27 Tryz.sizeOf3 Tryz.zeroValue3 rfl rfl (.cons rfl .nil) (RVs.cons (RV_int.2 rfl) RVs.nil) rfl rfl fun g' w' v hs o r hxt hfl=>⟨g',hxt,r,o,hfl⟩) (fun t5 hv=>?_)
      clear hv
      refine L_do (φ:=fun v g w=>v=.bool (m7)) rfl rfl (.yes2 rfl rfl u3) (fun g w hd=>D_call (g:=g) (vs:=[.int .i64 (0),.int .i64 ((w64 (l8 - (1:Int)))),t5]) en56 (.cons rfl (.cons rfl (.cons rfl .nil))) (wk56 (word (A:=fun g w=>RV g.m w ([(x1).Box]:List Int) t5∧OS 3026 g w 3 ([(x1).Box]:List Int) t5∧FullV t5) 21 rfl rfl (deps_of hd)).1 bA) fun g' w' v hs hr=>⟨g',hs,hr⟩) (fun oB hv=>?_)
      obtain ⟨_,_,_,rfl⟩:=hv
      refine L_p (.bool (m7)) rfl rfl (P_pick (b:=y6) rfl (pick_t u3 rfl)) ?_
      refine L_p (.bool (m7)) rfl rfl (P_move rfl) ?_
      refine L_y (fPtr p2 3) rfl rfl rfl rfl i6 (P_fieldAddr at_65_3 rfl (PT.ptr q2)) ?_
      refine L_y (fPtr (fPtr p2 3) 0) rfl rfl rfl rfl i6 (P_fieldAddr at_63_0 rfl (PT.ptr rA)) ?_
      refine L_ld (c:=.int .i64 (((x1).Yarn).Low)) rfl rfl (.yes2 rfl rfl i6) (fun _ _ h=>h.ch) dB rfl ?_
      refine L_y (fPtr p2 3) rfl rfl rfl rfl i6 (P_fieldAddr at_65_3 rfl (PT.ptr q2)) ?_
      refine L_y (fPtr (fPtr p2 3) 1) rfl rfl rfl rfl i6 (P_fieldAddr at_63_1 rfl (PT.ptr yA)) ?_
      refine L_ld (c:=.int .i64 (((x1).Yarn).High)) rfl rfl (.yes2 rfl rfl i6) (fun _ _ h=>h.ch) iB rfl ?_
      refine L_do (φ:=fun v g w=>RV g.m w ([((x1).Yarn).Low,((x1).Yarn).High]:List Int) v∧OS 3036 g w 3 ([((x1).Yarn).Low,((x1).Yarn).High]:List Int) v∧FullV v) rfl rfl (.yes2 rfl rfl i6) (fun g w hd=>D_buildSlice (g:=g) 3036 (xs:=([((x1).Yarn).Low,((x1).Yarn).High]:List Int)) (vs:=[.int .i64 (((x1).Yarn).Low),.int .i64 (((x1).Yarn).High)]) Tryz.underlying27 Tryz.sizeOf3 Tryz.zeroValue3 rfl rfl (.cons rfl (.cons rfl .nil)) (RVs.cons (RV_int.2 rfl) (RVs.cons (RV_int.2 rfl) RVs.nil)) rfl rfl fun g' w' v hs o r hxt hfl=>⟨g',hxt,r,o,hfl⟩) (fun i7 hv=>?_)
      clear hv
      refine L_do (φ:=fun v g w=>v=.bool (k8)) rfl rfl (.yes2 rfl rfl i6) (fun g w hd=>D_call (g:=g) (vs:=[.int .i64 (0),.int .i64 (1000),i7]) en56 (.cons rfl (.cons rfl (.cons rfl .nil))) (wk56 (word (A:=fun g w=>RV g.m w ([((x1).Yarn).Low,((x1).Yarn).High]:List Int) i7∧OS 3036 g w 3 ([((x1).Yarn).Low,((x1).Yarn).High]:List Int) i7∧FullV i7) 31 rfl rfl (deps_of hd)).1 lB) fun g' w' v hs hr=>⟨g',hs,hr⟩) (fun uD hv=>?_)
      obtain ⟨_,_,_,rfl⟩:=hv
      refine L_p (.bool (k8)) rfl rfl (P_pick (b:=m7) rfl (pick_t i6 rfl)) ?_
      refine L_p (.bool (k8)) rfl rfl (P_move rfl) ?_
      iterate 7 refine L_s rfl rfl rfl g8 rfl ?_
      refine L_p (.bool false) rfl rfl (P_pick (b:=k8) rfl (pick_f g8 rfl)) ?_
      refine L_p (.bool false) rfl rfl (P_assign rfl) ?_
      refine L_nil fun xD tF hall=>?_
      have hs:=hall.1
      have hfr:=hfr.ext hs
      have uF:=(word_all (A:=fun g w=>RV g.m w ([(x1).Colour]:List Int) o0∧OS 3007 g w 3 ([(x1).Colour]:List Int) o0∧FullV o0) 2 rfl hall).1
      have o390:=(word_all (A:=fun g w=>RV g.m w ([(x1).Colour]:List Int) o0∧OS 3007 g w 3 ([(x1).Colour]:List Int) o0∧FullV o0) 2 rfl hall).2.1
      have vF:=(word_all (A:=fun g w=>RV g.m w ([(x1).Side]:List Int) l5∧OS 3012 g w 3 ([(x1).Side]:List Int) l5∧FullV l5) 7 rfl hall).1
      have o395:=(word_all (A:=fun g w=>RV g.m w ([(x1).Side]:List Int) l5∧OS 3012 g w 3 ([(x1).Side]:List Int) l5∧FullV l5) 7 rfl hall).2.1
      have xF:=(word_all (A:=fun g w=>RV g.m w ([(x1).Box]:List Int) t5∧OS 3026 g w 3 ([(x1).Box]:List Int) t5∧FullV t5) 21 rfl hall).1
      have o409:=(word_all (A:=fun g w=>RV g.m w ([(x1).Box]:List Int) t5∧OS 3026 g w 3 ([(x1).Box]:List Int) t5∧FullV t5) 21 rfl hall).2.1
      have yF:=(word_all (A:=fun g w=>RV g.m w ([((x1).Yarn).Low,((x1).Yarn).High]:List Int) i7∧OS 3036 g w 3 ([((x1).Yarn).Low,((x1).Yarn).High]:List Int) i7∧FullV i7) 31 rfl hall).1
      have o419:=(word_all (A:=fun g w=>RV g.m w ([((x1).Yarn).Low,((x1).Yarn).High]:List Int) i7∧OS 3036 g w 3 ([((x1).Yarn).Low,((x1).Yarn).High]:List Int) i7∧FullV i7) 31 rfl hall).2.1
      clear hs hall
      refine EL_nil ?_
      obtain rfl:=sinj h
      exact hQ _ _ ⟨xD,hfr,rfl⟩
    ·refine E_drawL (g := g2) (n := 44) [(2, (fun v g w => RV g.m w ([(x1).Colour] : List Int) v ∧ OS 3007 g w 3 ([(x1).Colour] : List Int) v ∧ FullV v)), (3, (fun v g w => v = .bool (x6))), (7, (fun v g w => RV g.m w ([(x1).Side] : List Int) v ∧ OS 3012 g w 3 ([(x1).Side] : List Int) v ∧ FullV v)), (8, (fun v g w => v = .bool (y6))), (21, (fun v g w => RV g.m w ([(x1).Box] : List Int) v ∧ OS 3026 g w 3 ([(x1).Box] : List Int) v ∧ FullV v)), (22, (fun v g w => v = .bool (m7)))] [0, 1, 2, 3, 4, 5, 6, 7, 8, 9, 10, 11, 12, 13, 14, 15, 16, 17, 18, 19, 20, 21, 22, 23, 24, 25, 26, 27, 28, 29, 30, 31, 32, 33, 34, 35, 36, 37, 38, 39, 40, 41, 42, 43] rfl mixed (by kernel_rfl) (⟨fun _ => up_and up_rv (up_and up_os (up_eq _)), fun _ => up_eq _, fun _ => up_and up_rv (up_and up_os (up_eq _)), fun _ => up_eq _, fun _ => up_and up_rv (up_and up_os (up_eq _)), fun _ => up_eq _, trivial⟩) ?_
     refine L_p (fPtr p2 0) rfl rfl (P_fieldAddr at_65_0 rfl (PT.ptr q2)) ?_
     refine L_ld (c:=.int .i64 ((x1).Colour)) rfl rfl .plain (fun _ _ h=>h.ch) n8 rfl ?_
     refine L_do (φ:=fun v g w=>RV g.m w ([(x1).Colour]:List Int) v∧OS 3007 g w 3 ([(x1).Colour]:List Int) v∧FullV v) rfl rfl .plain (fun g w hd=>D_buildSlice (g:=g) 3007 (xs:=([(x1).Colour]:List Int)) (vs:=[.int .i64 ((x1).Colour)]) Tryz.underlying27 Tryz.sizeOf3 Tryz.zeroValue3 rfl rfl (.cons rfl .nil) (RVs.cons (RV_int.2 rfl) RVs.nil) rfl rfl fun g' w' v hs o r hxt hfl=>⟨g',hxt,r,o,hfl⟩) (fun o0 hv=>?_)
     clear hv
     refine L_do (φ:=fun v g w=>v=.bool (x6)) rfl rfl .plain (fun g w hd=>D_call (g:=g) (vs:=[.int .i64 (0),.int .i64 (9),o0]) en56 (.cons rfl (.cons rfl (.cons rfl .nil))) (wk56 (word (A:=fun g w=>RV g.m w ([(x1).Colour]:List Int) o0∧OS 3007 g w 3 ([(x1).Colour]:List Int) o0∧FullV o0) 2 rfl rfl (deps_of hd)).1 r8) fun g' w' v hs hr=>⟨g',hs,hr⟩) (fun iA hv=>?_)
     obtain ⟨_,_,_,rfl⟩:=hv
     refine L_p (.bool (x6)) rfl rfl (P_move rfl) ?_
     refine L_y (fPtr p2 1) rfl rfl rfl rfl x5 (P_fieldAddr at_65_1 rfl (PT.ptr q2)) ?_
     refine L_ld (c:=.int .i64 ((x1).Side)) rfl rfl (.yes2 rfl rfl x5) (fun _ _ h=>h.ch) x8 rfl ?_
     refine L_do (φ:=fun v g w=>RV g.m w ([(x1).Side]:List Int) v∧OS 3012 g w 3 ([(x1).Side]:List Int) v∧FullV v) rfl rfl (.yes2 rfl rfl x5) (fun g w hd=>D_buildSlice (g:=g) 3012 (xs:=([(x1).Side]:List Int)) (vs:=[.int .i64 ((x1).Side)]) Tryz.underlying27 Tryz.sizeOf3 Tryz.zeroValue3 rfl rfl (.cons rfl .nil) (RVs.cons (RV_int.2 rfl) RVs.nil) rfl rfl fun g' w' v hs o r hxt hfl=>⟨g',hxt,r,o,hfl⟩) (fun l5 hv=>?_)
     clear hv
     refine L_do (φ:=fun v g w=>v=.bool (y6)) rfl rfl (.yes2 rfl rfl x5) (fun g w hd=>D_call (g:=g) (vs:=[.int .i64 (0),.int .i64 (1),l5]) en56 (.cons rfl (.cons rfl (.cons rfl .nil))) (wk56 (word (A:=fun g w=>RV g.m w ([(x1).Side]:List Int) l5∧OS 3012 g w 3 ([(x1).Side]:List Int) l5∧FullV l5) 7 rfl rfl (deps_of hd)).1 a9) fun g' w' v hs hr=>⟨g',hs,hr⟩) (fun aB hv=>?_)
     obtain ⟨_,_,_,rfl⟩:=hv
     refine L_p (.bool (y6)) rfl rfl (P_pick (b:=x6) rfl (pick_t x5 rfl)) ?_
     refine L_p (.bool (y6)) rfl rfl (P_move rfl) ?_
     refine L_y (fPtr p1 0) rfl rfl rfl rfl u3 (P_fieldAddr at_83_0 rfl (PT.ptr q1)) ?_
     refine L_y (fPtr (fPtr p1 0) 0) rfl rfl rfl rfl u3 (P_fieldAddr at_33_0 rfl (PT.ptr k9)) ?_
     refine L_ld (c:=v8) rfl rfl (.yes2 rfl rfl u3) (fun _ _ h=>h.ch) n9 rfl ?_
     refine L_y (fPtr p2 1) rfl rfl rfl rfl u3 (P_fieldAddr at_65_1 rfl (PT.ptr q2)) ?_
     refine L_ld (c:=.int .i64 ((x1).Side)) rfl rfl (.yes2 rfl rfl u3) (fun _ _ h=>h.ch) u9 rfl ?_
     refine L_y (ePtr v8 (x1).Side 1) rfl rfl rfl rfl u3 (P_indexAddr (α:=Int) Tryz.underlying27 Tryz.sizeOf3 rfl l9 rfl d9) ?_
     refine L_ld (c:=.int .i64 (l8)) rfl rfl (.yes2 rfl rfl u3) (fun _ _ h=>h.ch) y9 rfl ?_
     refine L_y (.int .i64 ((w64 (l8 - (1:Int))))) rfl rfl rfl rfl u3 (P_int rfl rfl rfl) ?_
     refine L_y (fPtr p2 2) rfl rfl rfl rfl u3 (P_fieldAddr at_65_2 rfl (PT.ptr q2)) ?_
     refine L_ld (c:=.int .i64 ((x1).Box)) rfl rfl (.yes2 rfl rfl u3) (fun _ _ h=>h.ch) z9 rfl ?_
     refine L_do (φ:=fun v g w=>RV g.m w ([(x1).Box]:List Int) v∧OS 3026 g w 3 ([(x1).Box]:List Int) v∧FullV v) rfl rfl (.yes2 rfl rfl u3) (fun g w hd=>D_buildSlice (g:=g) 3026 (xs:=([(x1).Box]:List Int)) (vs:=[.int .i64 ((x1).Box)]) Tryz.underlying27 Tryz.sizeOf3 Tryz.zeroValue3 rfl rfl (.cons rfl .nil) (RVs.cons (RV_int.2 rfl) RVs.nil) rfl rfl fun g' w' v hs o r hxt hfl=>⟨g',hxt,r,o,hfl⟩) (fun t5 hv=>?_)
     clear hv
     refine L_do (φ:=fun v g w=>v=.bool (m7)) rfl rfl (.yes2 rfl rfl u3) (fun g w hd=>D_call (g:=g) (vs:=[.int .i64 (0),.int .i64 ((w64 (l8 - (1:Int)))),t5]) en56 (.cons rfl (.cons rfl (.cons rfl .nil))) (wk56 (word (A:=fun g w=>RV g.m w ([(x1).Box]:List Int) t5∧OS 3026 g w 3 ([(x1).Box]:List Int) t5∧FullV t5) 21 rfl rfl (deps_of hd)).1 bA) fun g' w' v hs hr=>⟨g',hs,hr⟩) (fun oB hv=>?_)
     obtain ⟨_,_,_,rfl⟩:=hv
     refine L_p (.bool (m7)) rfl rfl (P_pick (b:=y6) rfl (pick_t u3 rfl)) ?_
     refine L_p (.bool (m7)) rfl rfl (P_move rfl) ?_
     iterate 8 refine L_s rfl rfl rfl i6 rfl ?_
     refine L_p (.bool false) rfl rfl (P_pick (b:=m7) rfl (pick_f i6 rfl)) ?_
     refine L_dead (fun _=>rfl) 9 rfl ?_
     refine L_p (.bool false) rfl rfl (P_assign rfl) ?_
     refine L_nil fun yD zF hall=>?_
     have hs:=hall.1
     have hfr:=hfr.ext hs
     have aG:=(word_all (A:=fun g w=>RV g.m w ([(x1).Colour]:List Int) o0∧OS 3007 g w 3 ([(x1).Colour]:List Int) o0∧FullV o0) 2 rfl hall).1
     have o439:=(word_all (A:=fun g w=>RV g.m w ([(x1).Colour]:List Int) o0∧OS 3007 g w 3 ([(x1).Colour]:List Int) o0∧FullV o0) 2 rfl hall).2.1
     have bG:=(word_all (A:=fun g w=>RV g.m w ([(x1).Side]:List Int) l5∧OS 3012 g w 3 ([(x1).Side]:List Int) l5∧FullV l5) 7 rfl hall).1
     have o444:=(word_all (A:=fun g w=>RV g.m w ([(x1).Side]:List Int) l5∧OS 3012 g w 3 ([(x1).Side]:List Int) l5∧FullV l5) 7 rfl hall).2.1
     have cG:=(word_all (A:=fun g w=>RV g.m w ([(x1).Box]:List Int) t5∧OS 3026 g w 3 ([(x1).Box]:List Int) t5∧FullV t5) 21 rfl hall).1
     have o458:=(word_all (A:=fun g w=>RV g.m w ([(x1).Box]:List Int) t5∧OS 3026 g w 3 ([(x1).Box]:List Int) t5∧FullV t5) 21 rfl hall).2.1
     clear hs hall
     refine EL_nil ?_
     obtain rfl:=sinj h
     exact hQ _ _ ⟨yD,hfr,rfl⟩
   ·refine E_drawL (g := g2) (n := 44) [(2, (fun v g w => RV g.m w ([(x1).Colour] : List Int) v ∧ OS 3007 g w 3 ([(x1).Colour] : List Int) v ∧ FullV v)), (3, (fun v g w => v = .bool (x6))), (7, (fun v g w => RV g.m w ([(x1).Side] : List Int) v ∧ OS 3012 g w 3 ([(x1).Side] : List Int) v ∧ FullV v)), (8, (fun v g w => v = .bool (y6)))] [0, 1, 2, 3, 4, 5, 6, 7, 8, 9, 10, 11, 12, 13, 14, 15, 16, 17, 18, 19, 20, 21, 22, 23, 24, 25, 26, 27, 28, 29, 30, 31, 32, 33, 34, 35, 36, 37, 38, 39, 40, 41, 42, 43] rfl mixed (by kernel_rfl) (⟨fun _ => up_and up_rv (up_and up_os (up_eq _)), fun _ => up_eq _, fun _ => up_and up_rv (up_and up_os (up_eq _)), fun _ => up_eq _, trivial⟩) ?_
    refine L_p (fPtr p2 0) rfl rfl (P_fieldAddr at_65_0 rfl (PT.ptr q2)) ?_
    refine L_ld (c:=.int .i64 ((x1).Colour)) rfl rfl .plain (fun _ _ h=>h.ch) n8 rfl ?_
    refine L_do (φ:=fun v g w=>RV g.m w ([(x1).Colour]:List Int) v∧OS 3007 g w 3 ([(x1).Colour]:List Int) v∧FullV v) rfl rfl .plain (fun g w hd=>D_buildSlice (g:=g) 3007 (xs:=([(x1).Colour]:List Int)) (vs:=[.int .i64 ((x1).Colour)]) Tryz.underlying27 Tryz.sizeOf3 Tryz.zeroValue3 rfl rfl (.cons rfl .nil) (RVs.cons (RV_int.2 rfl) RVs.nil) rfl rfl fun g' w' v hs o r hxt hfl=>⟨g',hxt,r,o,hfl⟩) (fun o0 hv=>?_)
    clear hv
    refine L_do (φ:=fun v g w=>v=.bool (x6)) rfl rfl .plain (fun g w hd=>D_call (g:=g) (vs:=[.int .i64 (0),.int .i64 (9),o0]) en56 (.cons rfl (.cons rfl (.cons rfl .nil))) (wk56 (word (A:=fun g w=>RV g.m w ([(x1).Colour]:List Int) o0∧OS 3007 g w 3 ([(x1).Colour]:List Int) o0∧FullV o0) 2 rfl rfl (deps_of hd)).1 r8) fun g' w' v hs hr=>⟨g',hs,hr⟩) (fun iA hv=>?_)
    obtain ⟨_,_,_,rfl⟩:=hv
    refine L_p (.bool (x6)) rfl rfl (P_move rfl) ?_
    refine L_y (fPtr p2 1) rfl rfl rfl rfl x5 (P_fieldAddr at_65_1 rfl (PT.ptr q2)) ?_
    refine L_ld (c:=.int .i64 ((x1).Side)) rfl rfl (.yes2 rfl rfl x5) (fun _ _ h=>h.ch) x8 rfl ?_
    refine L_do (φ:=fun v g w=>RV g.m w ([(x1).Side]:List Int) v∧OS 3012 g w 3 ([(x1).Side]:List Int) v∧FullV v) rfl rfl (.yes2 rfl rfl x5) (fun g w hd=>D_buildSlice (g:=g) 3012 (xs:=([(x1).Side]:List Int)) (vs:=[.int .i64 ((x1).Side)]) Tryz.underlying27 Tryz.sizeOf3 Tryz.zeroValue3 rfl rfl (.cons rfl .nil) (RVs.cons (RV_int.2 rfl) RVs.nil) rfl rfl fun g' w' v hs o r hxt hfl=>⟨g',hxt,r,o,hfl⟩) (fun l5 hv=>?_)
    clear hv
    refine L_do (φ:=fun v g w=>v=.bool (y6)) rfl rfl (.yes2 rfl rfl x5) (fun g w hd=>D_call (g:=g) (vs:=[.int .i64 (0),.int .i64 (1),l5]) en56 (.cons rfl (.cons rfl (.cons rfl .nil))) (wk56 (word (A:=fun g w=>RV g.m w ([(x1).Side]:List Int) l5∧OS 3012 g w 3 ([(x1).Side]:List Int) l5∧FullV l5) 7 rfl rfl (deps_of hd)).1 a9) fun g' w' v hs hr=>⟨g',hs,hr⟩) (fun aB hv=>?_)
    obtain ⟨_,_,_,rfl⟩:=hv
    refine L_p (.bool (y6)) rfl rfl (P_pick (b:=x6) rfl (pick_t x5 rfl)) ?_
    refine L_p (.bool (y6)) rfl rfl (P_move rfl) ?_
    iterate 12 refine L_s rfl rfl rfl u3 rfl ?_
    refine L_p (.bool false) rfl rfl (P_pick (b:=y6) rfl (pick_f u3 rfl)) ?_
    refine L_dead (fun _=>rfl) 19 rfl ?_
    refine L_p (.bool false) rfl rfl (P_assign rfl) ?_
    refine L_nil fun zD eG hall=>?_
    have hs:=hall.1
    have hfr:=hfr.ext hs
    have gG:=(word_all (A:=fun g w=>RV g.m w ([(x1).Colour]:List Int) o0∧OS 3007 g w 3 ([(x1).Colour]:List Int) o0∧FullV o0) 2 rfl hall).1
    have o488:=(word_all (A:=fun g w=>RV g.m w ([(x1).Colour]:List Int) o0∧OS 3007 g w 3 ([(x1).Colour]:List Int) o0∧FullV o0) 2 rfl hall).2.1
    have hG:=(word_all (A:=fun g w=>RV g.m w ([(x1).Side]:List Int) l5∧OS 3012 g w 3 ([(x1).Side]:List Int) l5∧FullV l5) 7 rfl hall).1
    have o493:=(word_all (A:=fun g w=>RV g.m w ([(x1).Side]:List Int) l5∧OS 3012 g w 3 ([(x1).Side]:List Int) l5∧FullV l5) 7 rfl hall).2.1
    clear hs hall
    refine EL_nil ?_
    obtain rfl:=sinj h
    exact hQ _ _ ⟨zD,hfr,rfl⟩
  ·refine E_drawL (g := g2) (n := 44) [(2, (fun v g w => RV g.m w ([(x1).Colour] : List Int) v ∧ OS 3007 g w 3 ([(x1).Colour] : List Int) v ∧ FullV v)), (3, (fun v g w => v = .bool (x6)))] [0, 1, 2, 3, 4, 5, 6, 7, 8, 9, 10, 11, 12, 13, 14, 15, 16, 17, 18, 19, 20, 21, 22, 23, 24, 25, 26, 27, 28, 29, 30, 31, 32, 33, 34, 35, 36, 37, 38, 39, 40, 41, 42, 43] rfl mixed (by kernel_rfl) (⟨fun _ => up_and up_rv (up_and up_os (up_eq _)), fun _ => up_eq _, trivial⟩) ?_
   refine L_p (fPtr p2 0) rfl rfl (P_fieldAddr at_65_0 rfl (PT.ptr q2)) ?_
   refine L_ld (c:=.int .i64 ((x1).Colour)) rfl rfl .plain (fun _ _ h=>h.ch) n8 rfl ?_
   refine L_do (φ:=fun v g w=>RV g.m w ([(x1).Colour]:List Int) v∧OS 3007 g w 3 ([(x1).Colour]:List Int) v∧FullV v) rfl rfl .plain (fun g w hd=>D_buildSlice (g:=g) 3007 (xs:=([(x1).Colour]:List Int)) (vs:=[.int .i64 ((x1).Colour)]) Tryz.underlying27 Tryz.sizeOf3 Tryz.zeroValue3 rfl rfl (.cons rfl .nil) (RVs.cons (RV_int.2 rfl) RVs.nil) rfl rfl fun g' w' v hs o r hxt hfl=>⟨g',hxt,r,o,hfl⟩) (fun o0 hv=>?_)
   clear hv
   refine L_do (φ:=fun v g w=>v=.bool (x6)) rfl rfl .plain (fun g w hd=>D_call (g:=g) (vs:=[.int .i64 (0),.int .i64 (9),o0]) en56 (.cons rfl (.cons rfl (.cons rfl .nil))) (wk56 (word (A:=fun g w=>RV g.m w ([(x1).Colour]:List Int) o0∧OS 3007 g w 3 ([(x1).Colour]:List Int) o0∧FullV o0) 2 rfl rfl (deps_of hd)).1 r8) fun g' w' v hs hr=>⟨g',hs,hr⟩) (fun iA hv=>?_)
   obtain ⟨_,_,_,rfl⟩:=hv
   refine L_p (.bool (x6)) rfl rfl (P_move rfl) ?_
   iterate 4 refine L_s rfl rfl rfl x5 rfl ?_
   refine L_p (.bool false) rfl rfl (P_pick (b:=x6) rfl (pick_f x5 rfl)) ?_
   refine L_dead (fun _=>rfl) 33 rfl ?_
   refine L_p (.bool false) rfl rfl (P_assign rfl) ?_
   refine L_nil fun aE iG hall=>?_
   have hs:=hall.1
   have hfr:=hfr.ext hs
   have jG:=(word_all (A:=fun g w=>RV g.m w ([(x1).Colour]:List Int) o0∧OS 3007 g w 3 ([(x1).Colour]:List Int) o0∧FullV o0) 2 rfl hall).1
   have o537:=(word_all (A:=fun g w=>RV g.m w ([(x1).Colour]:List Int) o0∧OS 3007 g w 3 ([(x1).Colour]:List Int) o0∧FullV o0) 2 rfl hall).2.1
   clear hs hall
   refine EL_nil ?_
   obtain rfl:=sinj h
   exact hQ _ _ ⟨aE,hfr,rfl⟩
 ·clear hx
  obtain ⟨kG,hfr,tB⟩:=hR
  refine E_ret ?_
  obtain rfl:=sinj h
  exact end1 rfl rfl (show _=.bool (m8) from tB) ⟨_,hfr,rfl⟩
def f54 (x0:BoxBoxLoom):Option (Bool):=
 jn (σ:=Unit) (fun _=>
  some (true)
  ) fun oB=>
 lp (σ:=Int) (fun tB u3=>
  bif (decide (u3 < ((((x0).BoxLoom).Boxes).length : Int))) then
   jn (σ:=Unit) (fun _=>
    tB ((w64 (u3 + (1:Int))))
    ) fun x8=>
   (idx (((x0).BoxLoom).Boxes) u3).bind fun x5=>
   Option.bind (α:=Bool) (
    (f56 ((1:Int)) ((4:Int)) (([x5]:List Int))).bind fun y130=>
    bif (!y130) then
     some (true)
    else
     (idx (((x0).BoxLoom).At) u3).bind fun y135=>
     (f56 ((0:Int)) ((w64 (x5 - (1:Int)))) (([y135]:List Int))).bind fun y140=>
     some ((!y140))
    ) fun i6=>
   bif i6 then
    some (false)
   else
    x8 ()
  else
   oB ()
  ) big ((0:Int))
theorem en54:Enters Tryz.prog 54:=enters_of Tryz.func54 (by kernel_rfl) rfl
theorem wk54 {gI:Gh} {wI:World} {x0:BoxBoxLoom} {up0:Value} (rp0:RV gI.m wI x0 up0) {r:Bool} (h:f54 x0=some r):Fn Tryz.prog 54 #[up0] gI wI (fun _ _ v=>v=.bool (r)):=by
 unfold f54 at h
 refine fn_of_E Tryz.func54 rfl (Nat.le_of_ble_eq_true rfl) fun g0 hm hfr=>?_
 have rp0:RV g0.m wI x0 up0:=hm ▸ rp0
 show E _ 32 none _ _ _ _ _
 refine E_seq (E_region (EL_do .plain rfl (D_box (g:=g0) rfl rp0 fun g1 w1 p1 hs q1=>?_)))
 have hfr:=hfr.ext hs
 refine EL_at (.bool false) rfl rfl ?_
 refine EL_nil (thn_n (E_joinC h (fun (s:Unit) e w=>∃ (g:Gh) ,Fr gI wI g w) (fun X73 oB zB h=>?_) ?_))
 ·refine E_seq (E_region (EL_p (fPtr p1 0) (P_fieldAddr at_83_0 rfl (PT.ptr q1)) rfl ?_))
  have vB:=PT_field (part_BoxBoxLoom_0).1 q1
  refine EL_p (fPtr (fPtr p1 0) 0) (P_fieldAddr at_33_0 rfl (PT.ptr vB)) rfl ?_
  have sD:=PT_field (part_BoxLoom_0).1 vB
  refine EL_do .plain rfl (D_load (g:=g1) Tryz.isAgg27 Tryz.sizeOf27 rfl sD fun y6 yB=>?_)
  refine EL_p (.int .i64 ((((x0).BoxLoom).Boxes).length:Int)) (P_len Tryz.underlying27 rfl yB) rfl ?_
  refine EL_mw (.int .i64 (0)) rfl rfl ?_
  refine EL_nil (thn_n (E_block ?_))
  refine E_lp h (fun (s:Int) e w=>∃ (g:Gh) ,Fr gI wI g w∧e 1=p1∧PT g.m w (x0:BoxBoxLoom) p1∧e 7=y6∧RV g.m w (((x0).BoxLoom).Boxes:List Int) y6∧e 8=.int .i64 (((((x0).BoxLoom).Boxes).length:Int))∧e 9=.int .i64 (s)) ⟨g1,hfr,rfl,q1,rfl,yB,rfl,rfl⟩ (fun X77 tB cC=>?_)
  rintro u3 zD yE ⟨a9,hfr,m7,l5,g8,t5,k8,x6⟩ h
  refine E_seq (E_region (EL_p (.bool ((decide (u3 < ((((x0).BoxLoom).Boxes).length:Int))))) (P_int x6 k8 rfl) rfl ?_))
  refine EL_nil (thn_n (E_seq ?_))
  rcases csome h with ⟨n8,h⟩ | ⟨n8,h⟩
  ·refine E_ct n8 rfl ?_
   refine E_skip (thn_n (E_joinC h (fun (s:Unit) e w=>∃ (g:Gh) ,Fr gI wI g w∧e 1=p1∧PT g.m w (x0:BoxBoxLoom) p1∧e 7=y6∧RV g.m w (((x0).BoxLoom).Boxes:List Int) y6∧e 8=.int .i64 (((((x0).BoxLoom).Boxes).length:Int))∧e 9=.int .i64 (u3)) (fun X111 x8 lB h=>?_) ?_))
   ·refine E_block ?_
    refine E_seq (E_region (EL_mv x6 rfl ?_))
    obtain ⟨x5,r8,h⟩:=bsome h
    refine EL_p (ePtr y6 u3 1) (P_indexAddr (α:=Int) Tryz.underlying27 Tryz.sizeOf3 g8 t5 x6 r8) rfl ?_
    have mC:=PT_idx t5 r8
    refine EL_do .plain rfl (D_load (g:=a9) Tryz.isAgg3 Tryz.sizeOf3 rfl mC fun aE qC=>?_)
    obtain rfl:=RV_int.1 qC
    refine EL_at (.int .i64 (u3)) rfl rfl ?_
    refine EL_at (.int .i64 (x5)) rfl rfl ?_
    refine EL_nil (thn_n ?_)
    obtain ⟨i6,hx,h⟩:=bsome h
    refine E_join (fun e w=>∃ (g:Gh) ,Fr gI wI g w∧e 1=p1∧PT g.m w (x0:BoxBoxLoom) p1∧e 7=y6∧RV g.m w (((x0).BoxLoom).Boxes:List Int) y6∧e 8=.int .i64 (((((x0).BoxLoom).Boxes).length:Int))∧e 9=.int .i64 (u3)∧e 30=.bool (i6)) (fun Q' hQ=>?_) (fun tD bE hR=>?_)
    ·replace h := hx
     clear hx
     refine E_region (EL_mw (.int .i64 (x5)) rfl rfl ?_)
     refine EL_do .plain rfl (D_buildSlice (g:=a9) 3015 (xs:=([x5]:List Int)) (vs:=[.int .i64 (x5)]) Tryz.underlying27 Tryz.sizeOf3 Tryz.zeroValue3 rfl rfl (.cons rfl .nil) (RVs.cons (RV_int.2 rfl) RVs.nil) rfl rfl fun rC iE uC hs o128 vC hxt hfl=>?_)
     have hfr:=hfr.stp hs
     have l5:=l5.stp hs
     have t5:=t5.stp hs
     obtain ⟨y130,mB,h⟩:=bsome h
     refine EL_do .plain rfl (D_call (g:=rC) (vs:=[.int .i64 (1),.int .i64 (4),uC]) en56 (.cons rfl (.cons rfl (.cons rfl .nil))) (wk56 vC mB) fun l8 uD lE hs hr=>?_)
     have hfr:=hfr.ext hs
     have l5:=l5.ext hs
     have t5:=t5.ext hs
     subst hr
     refine EL_p (.bool (!y130)) (P_not rfl) rfl ?_
     refine EL_mw (.bool (!y130)) rfl rfl ?_
     rcases csome h with ⟨o0,h⟩ | ⟨o0,h⟩
     ·refine EL_s rfl rfl o0 rfl rfl ?_
      iterate 10 refine EL_s rfl rfl o0 rfl rfl ?_
      refine EL_p (.bool true) (P_pick (b:=(!y130)) rfl (pick_t o0 rfl)) rfl ?_
      refine EL_nil ?_
      obtain rfl:=sinj h
      exact hQ _ _ ⟨l8,hfr,m7,l5,g8,t5,k8,x6,rfl⟩
     ·refine EL_y (.int .i64 (x5)) (P_move rfl) rfl rfl o0 rfl ?_
      refine EL_y (.int .i64 ((w64 (x5 - (1:Int))))) (P_int rfl rfl rfl) rfl rfl o0 rfl ?_
      refine EL_y (fPtr p1 0) (P_fieldAddr at_83_0 m7 (PT.ptr l5)) rfl rfl o0 rfl ?_
      have d9:=PT_field (part_BoxBoxLoom_0).1 l5
      refine EL_y (fPtr (fPtr p1 0) 1) (P_fieldAddr at_33_1 rfl (PT.ptr d9)) rfl rfl o0 rfl ?_
      have aD:=PT_field (part_BoxLoom_1).1 d9
      refine EL_do (.yes2 rfl rfl o0) rfl (D_load (g:=l8) Tryz.isAgg27 Tryz.sizeOf27 rfl aD fun bD k9=>?_)
      refine EL_y (.int .i64 (u3)) (P_move rfl) rfl rfl o0 rfl ?_
      obtain ⟨y135,v8,h⟩:=bsome h
      refine EL_y (ePtr bD u3 1) (P_indexAddr (α:=Int) Tryz.underlying27 Tryz.sizeOf3 rfl k9 rfl v8) rfl rfl o0 rfl ?_
      have cD:=PT_idx k9 v8
      refine EL_do (.yes2 rfl rfl o0) rfl (D_load (g:=l8) Tryz.isAgg3 Tryz.sizeOf3 rfl cD fun mE eD=>?_)
      obtain rfl:=RV_int.1 eD
      refine EL_do (.yes2 rfl rfl o0) rfl (D_buildSlice (g:=l8) 3027 (xs:=([y135]:List Int)) (vs:=[.int .i64 (y135)]) Tryz.underlying27 Tryz.sizeOf3 Tryz.zeroValue3 rfl rfl (.cons rfl .nil) (RVs.cons (RV_int.2 rfl) RVs.nil) rfl rfl fun gD oE iD hs o138 jD hxt hfl=>?_)
      have hfr:=hfr.stp hs
      have l5:=l5.stp hs
      have t5:=t5.stp hs
      obtain ⟨y140,nB,h⟩:=bsome h
      refine EL_do (.yes2 rfl rfl o0) rfl (D_call (g:=gD) (vs:=[.int .i64 (0),.int .i64 ((w64 (x5 - (1:Int)))),iD]) en56 (.cons rfl (.cons rfl (.cons rfl .nil))) (wk56 jD nB) fun lD vD rE hs hr=>?_)
      have hfr:=hfr.ext hs
      have l5:=l5.ext hs
      have t5:=t5.ext hs
      subst hr
      refine EL_y (.bool (!y140)) (P_not rfl) rfl rfl o0 rfl ?_
      refine EL_p (.bool (!y140)) (P_pick (b:=(!y130)) rfl (pick_f o0 rfl)) rfl ?_
      refine EL_nil ?_
      obtain rfl:=sinj h
      exact hQ _ _ ⟨lD,hfr,m7,l5,g8,t5,k8,x6,rfl⟩
    ·clear hx
     obtain ⟨nD,hfr,l9,n9,u9,y9,z9,bA,i7⟩:=hR
     rcases csome h with ⟨m8,h⟩ | ⟨m8,h⟩
     ·refine E_cond_true (Eq.trans (show ev _ _ = .bool (i6) from i7) (congrArg Value.bool m8)) ?_
      refine E_seq (E_region (EL_at (.bool false) rfl rfl ?_))
      refine EL_nil (thn_n (E_ret (blk_r ?_)))
      refine thn_r ?_
      refine thn_r ?_
      refine blk_r ?_
      refine thn_r ?_
      obtain rfl:=sinj h
      exact end1 rfl rfl (show _=.bool false from rfl) ⟨_,hfr,rfl⟩
     ·refine E_cond_false (Eq.trans (show ev _ _ = .bool (i6) from i7) (congrArg Value.bool m8)) ?_
      exact E_skip (blk_n (thn_n (lB () _ _ ⟨nD,hfr,l9,n9,u9,y9,z9,bA⟩ h)))
   ·rintro _ xD uE ⟨oD, hfr, iA, rA, yA, aB, dB, iB⟩ h
    refine E_region (EL_in (.int .i64 ((w64 (u3 + (1:Int))))) iB rfl rfl rfl ?_)
    refine EL_mw (.int .i64 ((w64 (u3 + (1:Int))))) rfl rfl ?_
    exact EL_nil (thn_n (cC ((w64 (u3 + (1:Int)))) _ _ ⟨oD,hfr,iA,rA,yA,aB,dB,rfl⟩ h))
  ·refine E_cf n8 rfl ?_
   refine E_exit ?_
   refine thn_e ?_
   refine thn_e ?_
   refine blk_hit ?_
   exact thn_n (zB () _ _ ⟨a9,hfr⟩ h)
 ·rintro _ yD vE ⟨xE, hfr⟩ h
  refine E_seq (E_region (EL_at (.bool true) rfl rfl ?_))
  refine EL_nil (thn_n (E_ret ?_))
  obtain rfl:=sinj h
  exact end1 rfl rfl (show _=.bool true from rfl) ⟨_,hfr,rfl⟩
def f60 (x0:BoxRace) (x1:List BoxPick):Option (BoxRun × Int × Int):=
 jn (σ:=BoxRun) (fun y9=>
  some (y9,(0:Int),(0:Int))
  ) fun uC=>
 lp (σ:=BoxRun × Int) (fun vC (y6,u3)=>
  bif (decide (u3 < ((x1).length : Int))) then
   jn (σ:=BoxRun) (fun n8=>
    vC (n8,(w64 (u3 + (1:Int))))
    ) fun aD=>
   (idx x1 u3).bind fun bD=>
   (f75 ((y6).last) bD).bind fun o0=>
   jn (σ:=BoxRun) (fun x5=>
    (apnd 8 ((x5).thrown) (([o0.2.1]:List Int))).bind fun i6=>
    aD ((⟨i6,o0.1,(w64 ((x5).moves + o0.2.2))⟩:BoxRun))
    ) fun cD=>
   bif (o0.2.1 == (0 : Int)) then
    some ((⟨[],⟨(⟨List.toArray [(⟨List.toArray [0,0,0,0],rfl⟩:Vector Int 4),(⟨List.toArray [0,0,0,0],rfl⟩:Vector Int 4)],rfl⟩:Vector (Vector Int 4) 2),⟨0,0⟩⟩,0⟩:BoxRun),u3,(9:Int))
   else
    cD (y6)
  else
   uC (y6)
  ) big ((⟨[],x0,0⟩:BoxRun),(0:Int))
theorem en60:Enters Tryz.prog 60:=enters_of Tryz.func60 (by kernel_rfl) rfl
theorem wk60 {gI:Gh} {wI:World} {x0:BoxRace} {x1:List BoxPick} {up0:Value} (rp0:RV gI.m wI x0 up0) {up1:Value} (rp1:RV gI.m wI x1 up1) {r:BoxRun × Int × Int} (h:f60 x0 x1=some r):Fn Tryz.prog 60 #[up0,up1] gI wI (fun m w v=>∃ y0 y1 y2,v=.tuple #[y0,y1,y2]∧RV m w (r.1) y0∧y1=.int .i64 (r.2.1)∧y2=.int .i64 (r.2.2)):=by
 unfold f60 at h
 refine fn_of_E Tryz.func60 rfl (Nat.le_of_ble_eq_true rfl) fun g0 hm hfr=>?_
 have rp0:RV g0.m wI x0 up0:=hm ▸ rp0
 have rp1:RV g0.m wI x1 up1:=hm ▸ rp1
 show E _ 46 none _ _ _ _ _
 refine E_seq (E_region (EL_do .plain rfl (D_box (g:=g0) rfl rp0 fun g1 w1 p1 hs q1=>?_)))
 have hfr:=hfr.ext hs
 have rp1:=rp1.ext hs
 refine EL_do .plain rfl (D_allocOc (g:=g1) 2004 (⟨[],⟨(⟨List.toArray [(⟨List.toArray [0,0,0,0],rfl⟩:Vector Int 4),(⟨List.toArray [0,0,0,0],rfl⟩:Vector Int 4)],rfl⟩:Vector (Vector Int 4) 2),⟨0,0⟩⟩,0⟩:BoxRun) Tryz.zeroValue105 (fun m w=>⟨_,(rep_two rep_nil (rep_two (rep_two (rep_vec (flat_chunk (rep_vec (flat_chunk rep_int (flat_chunk rep_int (flat_chunk rep_int (flat_chunk rep_int flat_nil)))) rfl) (flat_chunk (rep_vec (flat_chunk rep_int (flat_chunk rep_int (flat_chunk rep_int (flat_chunk rep_int flat_nil)))) rfl) flat_nil)) rfl) (rep_two rep_int rep_int)) rep_int)),rfl⟩) fun g2 w2 p2 hs b2 cb=>?_)
 have hfr:=hfr.stp hs
 have rp1:=rp1.stp hs
 have q1:=q1.stp hs
 have bA:OSF 2004 60400 0 g2 w2 3 105 ([]:List Int) p2:=cb.osf (by rfl)
 clear cb
 refine EL_at (.int .i64 (0)) rfl rfl ?_
 refine EL_at (.int .i64 (0)) rfl rfl ?_
 refine EL_nil (thn_n (E_seq (E_region (EL_do .plain rfl (D_load (g:=g2) Tryz.isAgg94 Tryz.sizeOf94 rfl q1 fun v3 r3=>?_)))))
 refine EL_p (fPtr p2 1) (P_fieldAddr at_105_1 rfl (OB.ptr b2)) rfl ?_
 refine EL_do .plain rfl (D_storeFc (g:=g2) part_BoxRun_1 Tryz.sizeOf94 rfl b2 rfl r3 fun g5 w5 hs b5 rst hos=>?_)
 have bA:=bA.rest hs rst
 clear rst hos
 have hfr:=hfr.stp hs
 have rp1:=rp1.stp hs
 refine EL_nil (thn_n (E_joinC h (fun (s:BoxRun) e w=>∃ (g:Gh) ,Fr gI wI g w∧e 4=p2∧OB 2004 g w 105 (s:BoxRun) p2∧OSF 2004 60400 0 g w 3 105 ((s).thrown) p2) (fun X122 uC aE h=>?_) ?_))
 ·refine E_seq (E_region (EL_mw up1 rfl rfl ?_))
  refine EL_p (.int .i64 ((x1).length:Int)) (P_len Tryz.underlying49 rfl rp1) rfl ?_
  refine EL_mw (.int .i64 (0)) rfl rfl ?_
  refine EL_nil (thn_n (E_block ?_))
  refine E_lp h (fun (s:BoxRun × Int) e w=>∃ (g:Gh) ,Fr gI wI g w∧e 4=p2∧OB 2004 g w 105 (s.1:BoxRun) p2∧OSF 2004 60400 0 g w 3 105 ((s.1).thrown) p2∧e 14=up1∧RV g.m w (x1:List BoxPick) up1∧e 15=.int .i64 (((x1).length:Int))∧e 16=.int .i64 (s.2)) ⟨g5,hfr,rfl,b5,bA,rfl,rp1,rfl,rfl⟩ (fun X123 vC bE=>?_)
  rintro ⟨y6,u3⟩ yG gH ⟨iA,hfr,g8,t5,u4_0_124,a9,l5,d9,k8⟩ h
  refine E_seq (E_region (EL_in (.bool ((decide (u3 < ((x1).length:Int))))) k8 d9 rfl rfl ?_))
  refine EL_nil (thn_n (E_seq ?_))
  rcases csome h with ⟨k9,h⟩ | ⟨k9,h⟩
  ·refine E_ct k9 rfl ?_
   refine E_skip (thn_n (E_joinC h (fun (s:BoxRun) e w=>∃ (g:Gh) ,Fr gI wI g w∧e 4=p2∧OB 2004 g w 105 (s:BoxRun) p2∧OSF 2004 60400 0 g w 3 105 ((s).thrown) p2∧e 14=up1∧RV g.m w (x1:List BoxPick) up1∧e 15=.int .i64 (((x1).length:Int))∧e 16=.int .i64 (u3)) (fun X181 aD iE h=>?_) ?_))
   ·refine E_block ?_
    refine E_seq (E_region (EL_mv k8 rfl ?_))
    obtain ⟨bD,lB,h⟩:=bsome h
    refine EL_p (ePtr up1 u3 2) (P_indexAddr (α:=BoxPick) Tryz.underlying49 Tryz.sizeOf92 a9 l5 k8 lB) rfl ?_
    have zE:=PT_idx l5 lB
    refine EL_do .plain rfl (D_load (g:=iA) Tryz.isAgg92 Tryz.sizeOf92 rfl zE fun cF rA=>?_)
    refine EL_do .plain rfl (D_allocOc (g:=iA) 2008 (⟨0,0⟩:BoxPick) Tryz.zeroValue92 (fun m w=>⟨_,(rep_two rep_int rep_int),rfl⟩) fun dF iH jH hs b185 cb=>?_)
    have hfr:=hfr.stp hs
    have u4_0_124:=u4_0_124.stp hs rfl
    have t5:=t5.stp hs rfl
    have l5:=l5.stp hs
    have rA:=rA.stp hs
    clear cb
    refine EL_at (.int .i64 (u3)) rfl rfl ?_
    refine EL_do .plain rfl (D_storeOc (g:=dF) (v:=cF) Tryz.sizeOf92 rfl b185 rfl rA fun yA kH hs b186 cb=>?_)
    clear cb
    have hfr:=hfr.stp hs
    have u4_0_124:=u4_0_124.stp hs rfl
    have t5:=t5.stp hs rfl
    have l5:=l5.stp hs
    refine EL_nil (thn_n (E_seq (E_region (EL_p (fPtr p2 1) (P_fieldAddr at_105_1 g8 (OB.ptr t5)) rfl ?_))))
    refine EL_do .plain rfl (D_loadF (g:=yA) part_BoxRun_1.1 Tryz.isAgg94 Tryz.sizeOf94 rfl t5 fun eF rF=>?_)
    refine EL_do .plain rfl (D_loadO (g:=yA) Tryz.isAgg92 Tryz.sizeOf92 rfl b186 fun sF tF=>?_)
    obtain ⟨o0,lE,h⟩:=bsome h
    refine EL_do .plain rfl (D_call (g:=yA) (vs:=[eF,sF]) en75 (.cons rfl (.cons rfl .nil)) (wk75 rF tF lE) fun uF zG lH hs hr=>?_)
    have hfr:=hfr.ext hs
    have u4_0_124:=u4_0_124.ext hs
    have t5:=t5.ext hs
    have l5:=l5.ext hs
    obtain ⟨r8,mG,sG,rfl,v8,rfl,rfl⟩:=hr
    refine EL_mw (.tuple #[r8,.int .i64 (o0.2.1),.int .i64 (o0.2.2)]) rfl rfl ?_
    refine EL_p r8 (P_extract rfl rfl) rfl ?_
    refine EL_p (.int .i64 (o0.2.1)) (P_extract rfl rfl) rfl ?_
    refine EL_p (.int .i64 (o0.2.2)) (P_extract rfl rfl) rfl ?_
    refine EL_do .plain rfl (D_allocOc (g:=uF) 2009 (⟨(⟨List.toArray [(⟨List.toArray [0,0,0,0],rfl⟩:Vector Int 4),(⟨List.toArray [0,0,0,0],rfl⟩:Vector Int 4)],rfl⟩:Vector (Vector Int 4) 2),⟨0,0⟩⟩:BoxRace) Tryz.zeroValue94 (fun m w=>⟨_,(rep_two (rep_vec (flat_chunk (rep_vec (flat_chunk rep_int (flat_chunk rep_int (flat_chunk rep_int (flat_chunk rep_int flat_nil)))) rfl) (flat_chunk (rep_vec (flat_chunk rep_int (flat_chunk rep_int (flat_chunk rep_int (flat_chunk rep_int flat_nil)))) rfl) flat_nil)) rfl) (rep_two rep_int rep_int)),rfl⟩) fun vF mH eD hs b192 cb=>?_)
    have hfr:=hfr.stp hs
    have u4_0_124:=u4_0_124.stp hs rfl
    have t5:=t5.stp hs rfl
    have l5:=l5.stp hs
    have v8:=v8.stp hs
    clear cb
    refine EL_do .plain rfl (D_storeOc (g:=vF) (v:=r8) Tryz.sizeOf94 rfl b192 rfl v8 fun aB xF hs b193 cb=>?_)
    clear cb
    have hfr:=hfr.stp hs
    have u4_0_124:=u4_0_124.stp hs rfl
    have t5:=t5.stp hs rfl
    have l5:=l5.stp hs
    refine EL_at (.int .i64 (o0.2.1)) rfl rfl ?_
    refine EL_at (.int .i64 (o0.2.2)) rfl rfl ?_
    refine EL_nil (thn_n (E_joinC h (fun (s:BoxRun) e w=>∃ (g:Gh) ,Fr gI wI g w∧e 4=p2∧OB 2004 g w 105 (s:BoxRun) p2∧OSF 2004 60400 0 g w 3 105 ((s).thrown) p2∧e 9=eD∧OB 2009 g w 94 (o0.1:BoxRace) eD∧e 10=.int .i64 (o0.2.1)∧e 11=.int .i64 (o0.2.2)∧e 14=up1∧RV g.m w (x1:List BoxPick) up1∧e 15=.int .i64 (((x1).length:Int))∧e 16=.int .i64 (u3)) (fun X198 cD mE h=>?_) ?_))
    ·refine E_seq (E_region (EL_mw (.int .i64 (o0.2.1)) rfl rfl ?_))
     refine EL_in (.bool ((o0.2.1 == (0:Int)))) rfl rfl rfl rfl ?_
     refine EL_nil (thn_n ?_)
     rcases csome h with ⟨l9,h⟩ | ⟨l9,h⟩
     ·refine E_ct l9 rfl ?_
      refine E_seq (E_region ?_)
      have gD:RV aB.m xF (⟨[],⟨(⟨List.toArray [(⟨List.toArray [0,0,0,0],rfl⟩:Vector Int 4),(⟨List.toArray [0,0,0,0],rfl⟩:Vector Int 4)],rfl⟩:Vector (Vector Int 4) 2),⟨0,0⟩⟩,0⟩:BoxRun) (.agg (setCh [[.slice none 0 0],[.int .i64 0,.int .i64 0,.int .i64 0,.int .i64 0,.int .i64 0,.int .i64 0,.int .i64 0,.int .i64 0,.int .i64 0,.int .i64 0],[.int .i64 0]] []).flatten.toArray):=RV_build rfl (rep_pair (rep_nil) (rep_pair ((rep_two (rep_vec (flat_chunk (rep_vec (flat_chunk rep_int (flat_chunk rep_int (flat_chunk rep_int (flat_chunk rep_int flat_nil)))) rfl) (flat_chunk (rep_vec (flat_chunk rep_int (flat_chunk rep_int (flat_chunk rep_int (flat_chunk rep_int flat_nil)))) rfl) flat_nil)) rfl) (rep_two rep_int rep_int))) (rep_last (rep_int))))
      generalize mB:(Value.agg (setCh [[.slice none 0 0],[.int .i64 0,.int .i64 0,.int .i64 0,.int .i64 0,.int .i64 0,.int .i64 0,.int .i64 0,.int .i64 0,.int .i64 0,.int .i64 0],[.int .i64 0]] []).flatten.toArray)=iD at gD
      refine EL_p iD (mB ▸ P_build (vs:=[]) [[.slice none 0 0],[.int .i64 0,.int .i64 0,.int .i64 0,.int .i64 0,.int .i64 0,.int .i64 0,.int .i64 0,.int .i64 0,.int .i64 0,.int .i64 0],[.int .i64 0]] lay_105 rfl rfl .nil trivial) rfl ?_
      refine EL_mw (.int .i64 (u3)) rfl rfl ?_
      refine EL_do .plain rfl (D_storeOc (g:=aB) (v:=iD) Tryz.sizeOf105 g8 t5 rfl gD fun yF zF hs b201 cb=>?_)
      have xG:OSF 2004 60400 0 yF zF 3 105 ([]:List Int) p2:=cb.osf (by rw [← mB]; rfl)
      clear cb
      have hfr:=hfr.stp hs
      refine EL_at (.int .i64 (u3)) rfl rfl ?_
      refine EL_at (.int .i64 (9)) rfl rfl ?_
      refine EL_nil (thn_n (E_ret (thn_r ?_)))
      refine blk_r ?_
      refine thn_r ?_
      refine thn_r ?_
      refine blk_r ?_
      refine thn_r ?_
      obtain rfl:=sinj h
      obtain ⟨ad202,cv202,hp202,oE,cr202⟩:=ob_read Tryz.isAgg105 Tryz.sizeOf105 b201
      exact endm_ctt rfl rfl ((show _=p2 from g8).trans hp202) oE (show _=.int .i64 (u3) from rfl) (show _=.int .i64 (9) from rfl) ⟨_,hfr,_,_,_,rfl,cr202,rfl,rfl⟩
     ·refine E_cf l9 rfl ?_
      exact E_skip (thn_n (mE (y6) _ _ ⟨aB,hfr,g8,t5,u4_0_124,rfl,b193,rfl,rfl,a9,l5,d9,k8⟩ h))
    ·rintro x5 aH aG ⟨bG, hfr, m8, x6, u4_0_203, jD, lD, oB, tB, vB, i7, yB, zB⟩ h
     refine L_loadFS (x:=.tmp 33) part_BoxRun_0.1 Tryz.isAgg27 Tryz.sizeOf27 x6 u4_0_203 fun nD cG o210 rE=>?_
     obtain ⟨i6,uE,h⟩:=bsome h
     refine L_loadO0 (x:=.tmp 9) Tryz.isAgg94 Tryz.sizeOf94 lD fun n9 u9 vE=>?_
     refine L_loadO (x:=.tmp 39) part_BoxRun_2.1 Tryz.isAgg3 Tryz.sizeOf3 x6 fun nH eG xE=>?_
     obtain rfl:=RV_int.1 eG
     refine E_drawAS (g:=bG) (w:=aG) (i:=60400) (et:=3) (xs:=((x5).thrown:List Int)) (r:=i6) (u:=nD) cG o210 (n:=10) [(3,(fun v g w=>RV g.m w ([o0.2.1]:List Int) v∧OS 3036 g w 3 ([o0.2.1]:List Int) v∧FullV v)),(4,(fun v g w=>RV g.m w i6 v∧OS 60400 g w 3 i6 v))] [0,1,2,3,4,5,6,7,8,9] rfl mixed (by kernel_rfl) (⟨fun _=>up_and upS_rv (up_and upS_os (upS_eq _)),fun _=>up_as,trivial⟩) ?_
     refine L_p (fPtr p2 0) rfl rfl (P_fieldAddr at_105_0 m8 (OB.ptr x6)) ?_
     refine L_ld (c:=nD) rfl rfl .plain (fun _ _ h=>⟨h.1.ch,fun b hb ho=>h.1.block b hb (by rw [ho]; decide)⟩) rE rfl ?_
     refine L_p (.int .i64 (o0.2.1)) rfl rfl (P_move oB) ?_
     refine L_do (φ:=fun v g w=>RV g.m w ([o0.2.1]:List Int) v∧OS 3036 g w 3 ([o0.2.1]:List Int) v∧FullV v) rfl rfl .plain (fun g w hd=>D_buildSlice (g:=g) 3036 (xs:=([o0.2.1]:List Int)) (vs:=[.int .i64 (o0.2.1)]) Tryz.underlying27 Tryz.sizeOf3 Tryz.zeroValue3 rfl rfl (.cons rfl .nil) (RVs.cons (RV_int.2 rfl) RVs.nil) rfl rfl fun g' w' v hs o r hxt hfl=>⟨g',as_ext hxt,r,o,hfl⟩) (fun m7 hv=>?_)
     clear hv
     refine L_do (φ:=fun v g w=>RV g.m w i6 v∧OS 60400 g w 3 i6 v) rfl rfl .plain (fun g w hd=>D_appendS (g:=g) det_int rfl Tryz.underlying27 info_3 rfl rfl hd.1.2 rfl (word (A:=fun g w=>RV g.m w ([o0.2.1]:List Int) m7∧OS 3036 g w 3 ([o0.2.1]:List Int) m7∧FullV m7) 3 rfl rfl (deps_of hd)).1 uE) (fun l8 hv=>?_)
     clear hv
     refine L_ld (c:=n9) rfl rfl .plain (fun _ _ h=>⟨h.1.ch,fun b hb ho=>h.1.block b hb (by rw [ho]; decide)⟩) vE jD ?_
     refine L_p (fPtr p2 11) rfl rfl (P_fieldAddr at_105_2 m8 (OB.ptr x6)) ?_
     refine L_ld (c:=.int .i64 ((x5).moves)) rfl rfl .plain (fun _ _ h=>⟨h.1.ch,fun b hb ho=>h.1.block b hb (by rw [ho]; decide)⟩) xE rfl ?_
     refine L_p (.int .i64 (o0.2.2)) rfl rfl (P_move tB) ?_
     refine L_p (.int .i64 ((w64 ((x5).moves + o0.2.2)))) rfl rfl (P_int rfl rfl rfl) ?_
     refine L_nil fun oD oH hall=>?_
     have hs:=hall.1.1
     have hfr:=hfr.stp hs
     have x6:=x6.stp hs rfl
     have i7:=i7.stp hs
     have u9:=u9.stp hs
     have pH:=(word_all (A:=fun g w=>RV g.m w ([o0.2.1]:List Int) m7∧OS 3036 g w 3 ([o0.2.1]:List Int) m7∧FullV m7) 3 rfl hall).1
     have o228:=(word_all (A:=fun g w=>RV g.m w ([o0.2.1]:List Int) m7∧OS 3036 g w 3 ([o0.2.1]:List Int) m7∧FullV m7) 3 rfl hall).2.1
     have dB:=(word_all (A:=fun g w=>RV g.m w i6 l8∧OS 60400 g w 3 i6 l8) 4 rfl hall).1
     have o229:=(word_all (A:=fun g w=>RV g.m w i6 l8∧OS 60400 g w 3 i6 l8) 4 rfl hall).2
     clear hs hall
     have sD:RV oD.m _ (⟨i6,o0.1,(w64 ((x5).moves + o0.2.2))⟩:BoxRun) (.agg (setCh [[.slice none 0 0],[.int .i64 0,.int .i64 0,.int .i64 0,.int .i64 0,.int .i64 0,.int .i64 0,.int .i64 0,.int .i64 0,.int .i64 0,.int .i64 0],[.int .i64 0]] [(0,l8),(1,n9),(2,.int .i64 ((w64 ((x5).moves + o0.2.2))))]).flatten.toArray):=RV_build rfl (rep_pair (RV.cells dB) (rep_pair (RV.cells u9) (rep_last (rfl))))
     generalize nB:(Value.agg (setCh [[.slice none 0 0],[.int .i64 0,.int .i64 0,.int .i64 0,.int .i64 0,.int .i64 0,.int .i64 0,.int .i64 0,.int .i64 0,.int .i64 0,.int .i64 0],[.int .i64 0]] [(0,l8),(1,n9),(2,.int .i64 ((w64 ((x5).moves + o0.2.2))))]).flatten.toArray)=tD at sD
     refine EL_p tD (nB ▸ P_build (vs:=[(0,l8),(1,n9),(2,.int .i64 ((w64 ((x5).moves + o0.2.2))))]) [[.slice none 0 0],[.int .i64 0,.int .i64 0,.int .i64 0,.int .i64 0,.int .i64 0,.int .i64 0,.int .i64 0,.int .i64 0,.int .i64 0,.int .i64 0],[.int .i64 0]] lay_105 rfl rfl (.cons rfl (.cons rfl (.cons rfl .nil))) ⟨⟨_,rfl,cells_size dB⟩,⟨⟨_,rfl,cells_size u9⟩,⟨⟨_,rfl,rfl⟩,trivial⟩⟩⟩) rfl ?_
     refine EL_do .plain rfl (D_storeOc (g:=oD) (v:=tD) Tryz.sizeOf105 m8 x6 rfl sD fun uD gG hs b236 cb=>?_)
     obtain ⟨kG,lG,iB,_,_⟩:=RV_list dB
     have vD:OSF 2004 60400 0 uD gG 3 105 (i6:List Int) p2:=cb.osfv (by rw [← nB,iB]; rfl) (o229.stp hs rfl)
     clear cb
     have hfr:=hfr.stp hs
     have i7:=i7.stp hs
     exact EL_nil (blk_n (thn_n (iE ((⟨i6,o0.1,(w64 ((x5).moves + o0.2.2))⟩:BoxRun)) _ _ ⟨uD,hfr,m8,b236,vD,vB,i7,yB,zB⟩ h)))
   ·rintro n8 cH qH ⟨hG, hfr, xD, yD, u4_0_237, cC, mC, qC, rC⟩ h
    refine E_region (EL_in (.int .i64 ((w64 (u3 + (1:Int))))) rC rfl rfl rfl ?_)
    refine EL_mw (.int .i64 ((w64 (u3 + (1:Int))))) rfl rfl ?_
    exact EL_nil (thn_n (bE (n8,(w64 (u3 + (1:Int)))) _ _ ⟨hG,hfr,xD,yD,u4_0_237,cC,mC,qC,rfl⟩ h))
  ·refine E_cf k9 rfl ?_
   refine E_exit ?_
   refine thn_e ?_
   refine thn_e ?_
   refine blk_hit ?_
   exact thn_n (aE (y6) _ _ ⟨iA,hfr,g8,t5,u4_0_124⟩ h)
 ·rintro y9 dH sH ⟨zD, hfr, x8, z9, u4_0_238⟩ h
  refine E_seq (E_region (EL_do .plain rfl (D_loadO (g:=zD) Tryz.isAgg105 Tryz.sizeOf105 x8 z9 fun iG jG=>?_)))
  refine EL_do .plain rfl (D_storeOc (g:=zD) (v:=iG) Tryz.sizeOf105 x8 z9 rfl jG fun tH uH hs b240 cb=>?_)
  clear cb
  have hfr:=hfr.stp hs
  refine EL_at (.int .i64 (0)) rfl rfl ?_
  refine EL_at (.int .i64 (0)) rfl rfl ?_
  refine EL_nil (thn_n (E_ret ?_))
  obtain rfl:=sinj h
  obtain ⟨ad241,cv241,hp241,yE,cr241⟩:=ob_read Tryz.isAgg105 Tryz.sizeOf105 b240
  exact endm_ctt rfl rfl ((show _=p2 from x8).trans hp241) yE (show _=.int .i64 (0) from rfl) (show _=.int .i64 (0) from rfl) ⟨_,hfr,_,_,_,rfl,cr241,rfl,rfl⟩
def f74 (z0:Ptr BoxMill) (z1:BoxRace) (σ:Type) (cons:Cons σ (BoxPick × BoxStep)) (s0:σ):Option σ:=
 lp (σ:=σ × Int) (fun k5 (iA,u3)=>
  bif (decide (u3 < ((z0).x).left)) then
   jn (σ:=σ) (fun m8=>
    k5 (m8,(w64 (u3 + (1:Int))))
    ) fun rE=>
   lp (σ:=σ × Int) (fun uE (i7,l5)=>
    bif (decide (l5 < ((z0).x).right)) then
     jn (σ:=σ) (fun n8=>
      uE (n8,(w64 (l5 + (1:Int))))
      ) fun vE=>
     (f75 z1 ((⟨u3,l5⟩:BoxPick))).bind fun o0=>
     Option.bind (α:=σ × Bool) (
      bif (decide (o0.2.1 > (0 : Int))) then
       (cons i7 ((⟨u3,l5⟩:BoxPick),(⟨o0.1,(w64 (o0.2.1 - (1:Int))),o0.2.2⟩:BoxStep))).bind fun (g8,aB)=>
       some (aB,(!g8))
      else
       some (i7,false)
      ) fun (y6,x6)=>
     bif x6 then
      some y6
     else
      vE (y6)
    else
     rE (i7)
    ) big (iA,(0:Int))
  else
   some iA
  ) big (s0,(0:Int))
theorem en74:Enters Tryz.prog 74:=enters_of Tryz.func74 (by kernel_rfl) rfl
theorem wk74 {σ:Type} {cons:Cons σ (BoxPick × BoxStep)} {s0 r:σ} {gI:Gh} {wI:World} {z0:Ptr BoxMill} {z1:BoxRace} {pf0:Value} (qf0:PT gI.m wI z0 pf0) {pf1:Value} (qf1:PT gI.m wI z1 pf1) (h:f74 z0 z1 σ cons s0=some r):IterC Tryz.prog (RA2 (α:=BoxPick) (β:=BoxStep)) 74 #[] #[pf0,pf1] gI wI cons s0 r:=by
 unfold f74 at h
 refine iter_of_E Tryz.func74 rfl (Nat.le_of_ble_eq_true rfl) fun l B J g0 hm hAb hRo hfr=>?_
 have qf0:PT g0.m wI z0 pf0:=hm ▸ qf0
 have qf1:PT g0.m wI z1 pf1:=hm ▸ qf1
 show E _ 49 none _ _ (envAt #[.func (.yield l) #[] #[],pf0,pf1]) _ _
 refine E_seq (E_region (EL_do .plain rfl (D_load (g:=g0) Tryz.isAgg99 Tryz.sizeOf99 rfl qf0 fun v1 r1=>?_)))
 replace r1:=RV_ptr.1 r1
 obtain ⟨pb2,po2,pe2⟩:=PT.ptr r1
 refine EL_p v1 (P_nilCk rfl pe2) rfl ?_
 refine EL_p (fPtr v1 0) (P_fieldAddr at_136_0 rfl (PT.ptr r1)) rfl ?_
 have q3:=PT_field (part_BoxMill_0).1 r1
 refine EL_do .plain rfl (D_load (g:=g0) Tryz.isAgg3 Tryz.sizeOf3 rfl q3 fun v4 r4=>?_)
 obtain rfl:=RV_int.1 r4
 refine EL_mw (.int .i64 (0)) rfl rfl ?_
 refine EL_nil (thn_n (E_block ?_))
 refine E_lp h (fun (s:σ × Int) e w=>∃ (g:Gh) ,FrY gI wI B J (s.1) g w∧e 0=(.func (.yield l) #[] #[])∧e 1=pf0∧PT g.m w (z0:Ptr BoxMill) pf0∧e 2=pf1∧PT g.m w (z1:BoxRace) pf1∧e 13=.int .i64 (((z0).x).left)∧e 14=.int .i64 (s.2)) ⟨g0,hfr,rfl,rfl,qf0,rfl,qf1,rfl,rfl⟩ (fun X5 k5 hk5=>?_)
 rintro ⟨iA,u3⟩ sH w6 ⟨g6,hfr,zE,qC,rC,cF,dF,dB,n9⟩ h
 refine E_seq (E_region (EL_in (.bool ((decide (u3 < ((z0).x).left)))) n9 dB rfl rfl ?_))
 refine EL_nil (thn_n (E_seq ?_))
 rcases csome h with ⟨uC,h⟩ | ⟨uC,h⟩
 ·refine E_ct uC rfl ?_
  refine E_skip (thn_n (E_joinC h (fun (s:σ) e w=>∃ (g:Gh) ,FrY gI wI B J (s) g w∧e 0=(.func (.yield l) #[] #[])∧e 1=pf0∧PT g.m w (z0:Ptr BoxMill) pf0∧e 2=pf1∧PT g.m w (z1:BoxRace) pf1∧e 13=.int .i64 (((z0).x).left)∧e 14=.int .i64 (u3)) (fun X63 rE eF h=>?_) ?_))
  ·refine E_block ?_
   refine E_seq (E_region (EL_mv n9 rfl ?_))
   refine EL_at (.int .i64 (u3)) rfl rfl ?_
   refine EL_nil (thn_n (E_seq (E_region (EL_do .plain rfl (D_load (g:=g6) Tryz.isAgg99 Tryz.sizeOf99 qC rC fun xE bA=>?_)))))
   replace bA:=RV_ptr.1 bA
   obtain ⟨pb66,po66,pe66⟩:=PT.ptr bA
   refine EL_p xE (P_nilCk rfl pe66) rfl ?_
   refine EL_p (fPtr xE 1) (P_fieldAddr at_136_1 rfl (PT.ptr bA)) rfl ?_
   have iG:=PT_field (part_BoxMill_1).1 bA
   refine EL_do .plain rfl (D_load (g:=g6) Tryz.isAgg3 Tryz.sizeOf3 rfl iG fun tH jG=>?_)
   obtain rfl:=RV_int.1 jG
   refine EL_mw (.int .i64 (0)) rfl rfl ?_
   refine EL_nil (thn_n (E_block ?_))
   refine E_lp h (fun (s:σ × Int) e w=>∃ (g:Gh) ,FrY gI wI B J (s.1) g w∧e 0=(.func (.yield l) #[] #[])∧e 1=pf0∧PT g.m w (z0:Ptr BoxMill) pf0∧e 2=pf1∧PT g.m w (z1:BoxRace) pf1∧e 4=.int .i64 (u3)∧e 13=.int .i64 (((z0).x).left)∧e 14=.int .i64 (u3)∧e 20=.int .i64 (((z0).x).right)∧e 21=.int .i64 (s.2)) ⟨g6,hfr,zE,qC,rC,cF,dF,rfl,dB,n9,rfl,rfl⟩ (fun X69 uE rF=>?_)
   rintro ⟨i7,l5⟩ gH kG ⟨vC,hfr,k8,u9,x5,l8,t5,y9,r8,v8,x8,m7⟩ h
   refine E_seq (E_region (EL_in (.bool ((decide (l5 < ((z0).x).right)))) m7 x8 rfl rfl ?_))
   refine EL_nil (thn_n (E_seq ?_))
   rcases csome h with ⟨rA,h⟩ | ⟨rA,h⟩
   ·refine E_ct rA rfl ?_
    refine E_skip (thn_n (E_joinC h (fun (s:σ) e w=>∃ (g:Gh) ,FrY gI wI B J (s) g w∧e 0=(.func (.yield l) #[] #[])∧e 1=pf0∧PT g.m w (z0:Ptr BoxMill) pf0∧e 2=pf1∧PT g.m w (z1:BoxRace) pf1∧e 4=.int .i64 (u3)∧e 13=.int .i64 (((z0).x).left)∧e 14=.int .i64 (u3)∧e 20=.int .i64 (((z0).x).right)∧e 21=.int .i64 (l5)) (fun X95 vE sF h=>?_) ?_))
    ·refine E_block ?_
     refine E_seq (E_region (EL_mv m7 rfl ?_))
     refine EL_at (.int .i64 (l5)) rfl rfl ?_
     refine EL_nil (thn_n (E_seq (E_region (EL_mv y9 rfl ?_))))
     refine EL_mw (.int .i64 (l5)) rfl rfl ?_
     have iB:RV vC.m kG (⟨u3,l5⟩:BoxPick) (.agg (setCh [[.int .i64 0],[.int .i64 0]] [(0,.int .i64 (u3)),(1,.int .i64 (l5))]).flatten.toArray):=RV_build rfl (rep_pair (rfl) (rep_last (rfl)))
     generalize tF:(Value.agg (setCh [[.int .i64 0],[.int .i64 0]] [(0,.int .i64 (u3)),(1,.int .i64 (l5))]).flatten.toArray)=yE at iB
     refine EL_p yE (tF ▸ P_build (vs:=[(0,.int .i64 (u3)),(1,.int .i64 (l5))]) [[.int .i64 0],[.int .i64 0]] lay_92 rfl rfl (.cons rfl (.cons rfl .nil)) ⟨⟨_,rfl,rfl⟩,⟨⟨_,rfl,rfl⟩,trivial⟩⟩) rfl ?_
     refine EL_do .plain rfl (D_allocOc (g:=vC) 2006 (⟨0,0⟩:BoxPick) Tryz.zeroValue92 (fun m w=>⟨_,(rep_two rep_int rep_int),rfl⟩) fun lG uH xH hs b97 cb=>?_)
     have hfr:=hfr.stp_ hAb hs rfl
     have x5:=x5.stp hs
     have t5:=t5.stp hs
     have iB:=iB.stp hs
     clear cb
     refine EL_do .plain rfl (D_storeOc (g:=lG) (v:=yE) Tryz.sizeOf92 rfl b97 rfl iB fun aD yH hs b98 cb=>?_)
     clear cb
     have hfr:=hfr.stp_ hAb hs rfl
     have x5:=x5.stp hs
     have t5:=t5.stp hs
     refine EL_nil (thn_n (E_seq (E_region (EL_do .plain rfl (D_load (g:=aD) Tryz.isAgg94 Tryz.sizeOf94 l8 t5 fun mG sG=>?_)))))
     refine EL_do .plain rfl (D_loadO (g:=aD) Tryz.isAgg92 Tryz.sizeOf92 rfl b98 fun uF vF=>?_)
     obtain ⟨o0,lE,h⟩:=bsome h
     refine EL_do .plain rfl (D_call (g:=aD) (vs:=[mG,uF]) en75 (.cons rfl (.cons rfl .nil)) (wk75 sG vF lE) fun xF zG iH hs hr=>?_)
     have hfr:=hfr.ext_ hAb hs
     have x5:=x5.ext hs
     have t5:=t5.ext hs
     have b98:=b98.ext hs
     obtain ⟨a9,xG,yG,rfl,d9,rfl,rfl⟩:=hr
     refine EL_mw (.tuple #[a9,.int .i64 (o0.2.1),.int .i64 (o0.2.2)]) rfl rfl ?_
     refine EL_p a9 (P_extract rfl rfl) rfl ?_
     refine EL_p (.int .i64 (o0.2.1)) (P_extract rfl rfl) rfl ?_
     refine EL_p (.int .i64 (o0.2.2)) (P_extract rfl rfl) rfl ?_
     refine EL_do .plain rfl (D_allocOc (g:=xF) 2007 (⟨(⟨List.toArray [(⟨List.toArray [0,0,0,0],rfl⟩:Vector Int 4),(⟨List.toArray [0,0,0,0],rfl⟩:Vector Int 4)],rfl⟩:Vector (Vector Int 4) 2),⟨0,0⟩⟩:BoxRace) Tryz.zeroValue94 (fun m w=>⟨_,(rep_two (rep_vec (flat_chunk (rep_vec (flat_chunk rep_int (flat_chunk rep_int (flat_chunk rep_int (flat_chunk rep_int flat_nil)))) rfl) (flat_chunk (rep_vec (flat_chunk rep_int (flat_chunk rep_int (flat_chunk rep_int (flat_chunk rep_int flat_nil)))) rfl) flat_nil)) rfl) (rep_two rep_int rep_int)),rfl⟩) fun yF jH kH hs b103 cb=>?_)
     have hfr:=hfr.stp_ hAb hs rfl
     have x5:=x5.stp hs
     have t5:=t5.stp hs
     have b98:=b98.stp hs rfl
     have d9:=d9.stp hs
     clear cb
     refine EL_do .plain rfl (D_storeOc (g:=yF) (v:=a9) Tryz.sizeOf94 rfl b103 rfl d9 fun k9 lH hs b104 cb=>?_)
     clear cb
     have hfr:=hfr.stp_ hAb hs rfl
     have x5:=x5.stp hs
     have t5:=t5.stp hs
     have b98:=b98.stp hs rfl
     refine EL_at (.int .i64 (o0.2.1)) rfl rfl ?_
     refine EL_at (.int .i64 (o0.2.2)) rfl rfl ?_
     refine EL_nil (thn_n ?_)
     obtain ⟨⟨y6,x6⟩,hx,h⟩:=bsome h
     refine E_join (fun e w=>∃ (g:Gh) ,FrY gI wI B J (y6) g w∧e 0=(.func (.yield l) #[] #[])∧e 1=pf0∧PT g.m w (z0:Ptr BoxMill) pf0∧e 2=pf1∧PT g.m w (z1:BoxRace) pf1∧e 4=.int .i64 (u3)∧e 13=.int .i64 (((z0).x).left)∧e 14=.int .i64 (u3)∧e 20=.int .i64 (((z0).x).right)∧e 21=.int .i64 (l5)∧e 46=.bool (x6)) (fun Q' hQ=>?_) (fun aH mH hR=>?_)
     ·replace h := hx
      clear hx
      refine E_region (EL_mw (.int .i64 (o0.2.1)) rfl rfl ?_)
      refine EL_in (.bool ((decide (o0.2.1 > (0:Int))))) rfl rfl rfl rfl ?_
      refine EL_mw (.bool ((decide (o0.2.1 > (0:Int))))) rfl rfl ?_
      rcases csome h with ⟨i6,h⟩ | ⟨i6,h⟩
      ·refine EL_y ((.func (.yield l) #[] #[])) (P_move k8) rfl rfl i6 rfl ?_
       refine EL_do (.yes2 rfl rfl i6) rfl (D_loadO (g:=k9) Tryz.isAgg92 Tryz.sizeOf92 rfl b98 fun nH zF=>?_)
       refine EL_do (.yes2 rfl rfl i6) rfl (D_loadO (g:=k9) Tryz.isAgg94 Tryz.sizeOf94 rfl b104 fun yA bD=>?_)
       refine EL_y (.int .i64 (o0.2.1)) (P_move rfl) rfl rfl i6 rfl ?_
       refine EL_y (.int .i64 ((w64 (o0.2.1 - (1:Int))))) (P_int rfl rfl rfl) rfl rfl i6 rfl ?_
       refine EL_y (.int .i64 (o0.2.2)) (P_move rfl) rfl rfl i6 rfl ?_
       have cD:RV k9.m _ (⟨o0.1,(w64 (o0.2.1 - (1:Int))),o0.2.2⟩:BoxStep) (.agg (setCh [[.int .i64 0,.int .i64 0,.int .i64 0,.int .i64 0,.int .i64 0,.int .i64 0,.int .i64 0,.int .i64 0,.int .i64 0,.int .i64 0],[.int .i64 0],[.int .i64 0]] [(0,yA),(1,.int .i64 ((w64 (o0.2.1 - (1:Int))))),(2,.int .i64 (o0.2.2))]).flatten.toArray):=RV_build rfl (rep_pair (RV.cells bD) (rep_pair (rfl) (rep_last (rfl))))
       generalize mE:(Value.agg (setCh [[.int .i64 0,.int .i64 0,.int .i64 0,.int .i64 0,.int .i64 0,.int .i64 0,.int .i64 0,.int .i64 0,.int .i64 0,.int .i64 0],[.int .i64 0],[.int .i64 0]] [(0,yA),(1,.int .i64 ((w64 (o0.2.1 - (1:Int))))),(2,.int .i64 (o0.2.2))]).flatten.toArray)=aG at cD
       refine EL_y aG (mE ▸ P_build (vs:=[(0,yA),(1,.int .i64 ((w64 (o0.2.1 - (1:Int))))),(2,.int .i64 (o0.2.2))]) [[.int .i64 0,.int .i64 0,.int .i64 0,.int .i64 0,.int .i64 0,.int .i64 0,.int .i64 0,.int .i64 0,.int .i64 0,.int .i64 0],[.int .i64 0],[.int .i64 0]] lay_141 rfl rfl (.cons rfl (.cons rfl (.cons rfl .nil))) ⟨⟨_,rfl,cells_size bD⟩,⟨⟨_,rfl,rfl⟩,⟨⟨_,rfl,rfl⟩,trivial⟩⟩⟩) rfl rfl i6 rfl ?_
       obtain ⟨bG,oE,h⟩:=bsome h
       obtain ⟨g8,aB⟩:=bG
       refine EL_do (.yes2 rfl rfl i6) rfl (D_yield (g:=k9) (x:=((⟨u3,l5⟩:BoxPick),(⟨o0.1,(w64 (o0.2.1 - (1:Int))),o0.2.2⟩:BoxStep))) rfl (.cons rfl (.cons rfl .nil)) hRo hfr oE ⟨_,_,rfl,zF,cD⟩ fun cG oH hs hfrY=>?_)
       have x5:=x5.stp hs
       have t5:=t5.stp hs
       have hfr:=hfrY
       clear hfrY
       refine EL_y (.bool (!g8)) (P_not rfl) rfl rfl i6 rfl ?_
       refine EL_p (.bool (!g8)) (P_pick (b:=(decide (o0.2.1 > (0:Int)))) rfl (pick_t i6 rfl)) rfl ?_
       refine EL_nil ?_
       obtain ⟨rfl,rfl⟩:=pairs2 h
       exact hQ _ _ ⟨cG,hfr,k8,u9,x5,l8,t5,y9,r8,v8,x8,m7,rfl⟩
      ·refine EL_s rfl rfl i6 rfl rfl ?_
       iterate 8 refine EL_s rfl rfl i6 rfl rfl ?_
       refine EL_p (.bool false) (P_pick (b:=(decide (o0.2.1 > (0:Int)))) rfl (pick_f i6 rfl)) rfl ?_
       refine EL_nil ?_
       obtain ⟨rfl,rfl⟩:=pairs2 h
       exact hQ _ _ ⟨k9,hfr,k8,u9,x5,l8,t5,y9,r8,v8,x8,m7,rfl⟩
     ·clear hx
      obtain ⟨eG,hfr,eD,gD,iD,jD,lD,nD,lB,mB,nB,oB,l9⟩:=hR
      rcases csome h with ⟨z9,h⟩ | ⟨z9,h⟩
      ·refine E_cond_true (Eq.trans (show ev _ _ = .bool (x6) from l9) (congrArg Value.bool z9)) ?_
       refine E_ret (blk_r ?_)
       refine thn_r ?_
       refine thn_r ?_
       refine blk_r ?_
       refine blk_r ?_
       refine thn_r ?_
       refine thn_r ?_
       refine blk_r ?_
       obtain rfl:=sinj h
       exact end0 rfl rfl (FrY.done hfr)
      ·refine E_cond_false (Eq.trans (show ev _ _ = .bool (x6) from l9) (congrArg Value.bool z9)) ?_
       exact E_skip (blk_n (thn_n (sF (y6) _ _ ⟨eG,hfr,eD,gD,iD,jD,lD,nD,lB,mB,nB,oB⟩ h)))
    ·rintro n8 cH pH ⟨gG, hfr, oD, sD, tD, uD, vD, xD, tB, vB, yB, zB⟩ h
     refine E_region (EL_in (.int .i64 ((w64 (l5 + (1:Int))))) zB rfl rfl rfl ?_)
     refine EL_mw (.int .i64 ((w64 (l5 + (1:Int))))) rfl rfl ?_
     exact EL_nil (thn_n (rF (n8,(w64 (l5 + (1:Int)))) _ _ ⟨gG,hfr,oD,sD,tD,uD,vD,xD,tB,vB,yB,rfl⟩ h))
   ·refine E_cf rA rfl ?_
    refine E_exit ?_
    refine thn_e ?_
    refine thn_e ?_
    refine blk_hit ?_
    exact blk_n (thn_n (eF (i7) _ _ ⟨vC,hfr,k8,u9,x5,l8,t5,r8,v8⟩ h))
  ·rintro m8 dH qH ⟨hG, hfr, yD, zD, aE, bE, iE, cC, mC⟩ h
   refine E_region (EL_in (.int .i64 ((w64 (u3 + (1:Int))))) mC rfl rfl rfl ?_)
   refine EL_mw (.int .i64 ((w64 (u3 + (1:Int))))) rfl rfl ?_
   exact EL_nil (thn_n (hk5 (m8,(w64 (u3 + (1:Int)))) _ _ ⟨hG,hfr,yD,zD,aE,bE,iE,cC,rfl⟩ h))
 ·refine E_cf uC rfl ?_
  refine E_exit ?_
  refine thn_e ?_
  refine thn_e ?_
  refine blk_hit ?_
  obtain rfl:=sinj h
  exact end0n rfl rfl (FrY.done hfr)
def f7 (x0:TieHarness) (x1:Design):Option ((List Str) × Int):=
 jn (σ:=(List Str)) (fun l8=>
  jn (σ:=(List Str)) (fun rA=>
   Option.bind (α:=(List Str)) (
    lp (σ:=(List Str) × Int) (fun uD (m8,o0)=>
     bif (decide (o0 < (((x1).Rows).length : Int))) then
      Option.bind (α:=(List Str)) (
       (idx ((x1).Rows) o0).bind fun d9=>
       (f25 ((⟨x0⟩:TieTieHarness)) d9).bind fun y81=>
       (apnd 16 m8 (([y81]:List Str))).bind fun y84=>
       some (y84)
       ) fun y6=>
      uD (y6,(w64 (o0 + (1:Int))))
     else
      some (m8)
     ) big (rA,(0:Int))
    ) fun g8=>
   some (g8,(0:Int))
   ) fun vD=>
  (f24 x1).bind fun x6=>
  bif (x6 != (0 : Int)) then
   some ([],x6)
  else
   bif ((x1).Hooks != (x0).Hooks) then
    some ([],(4:Int))
   else
    vD (l8)
  ) fun k7=>
 (f23 x0).bind fun i7=>
 bif (i7 != (0 : Int)) then
  some ([],i7)
 else
  k7 ([])
theorem en7:Enters Tryz.prog 7:=enters_of Tryz.func7 (by kernel_rfl) rfl
theorem wk7 {gI:Gh} {wI:World} {x0:TieHarness} {x1:Design} {up0:Value} (rp0:RV gI.m wI x0 up0) {up1:Value} (rp1:RV gI.m wI x1 up1) {r:(List Str) × Int} (h:f7 x0 x1=some r):Fn Tryz.prog 7 #[up0,up1] gI wI (fun m w v=>∃ y0 y1,v=.tuple #[y0,y1]∧RV m w (r.1) y0∧y1=.int .i64 (r.2)):=by
 unfold f7 at h
 refine fn_of_E Tryz.func7 rfl (Nat.le_of_ble_eq_true rfl) fun g0 hm hfr=>?_
 have rp0:RV g0.m wI x0 up0:=hm ▸ rp0
 have rp1:RV g0.m wI x1 up1:=hm ▸ rp1
 show E _ 43 none _ _ _ _ _
 refine E_seq (E_region (EL_do .plain rfl (D_box (g:=g0) rfl rp0 fun g1 w1 p1 hs q1=>?_)))
 have hfr:=hfr.ext hs
 have rp1:=rp1.ext hs
 refine EL_do .plain rfl (D_box (g:=g1) rfl rp1 fun g2 w2 p2 hs q2=>?_)
 have hfr:=hfr.ext hs
 have q1:=q1.ext hs
 refine EL_at (.slice none 0 0) rfl rfl ?_
 refine EL_at (.int .i64 (0)) rfl rfl ?_
 refine EL_nil (thn_n (E_joinC h (fun (s:(List Str)) e w=>∃ (g:Gh) (v4:Value),Fr gI wI g w∧e 2=p1∧PT g.m w (x0:TieHarness) p1∧e 3=p2∧PT g.m w (x1:Design) p2∧e 4=v4∧RV g.m w (s:List Str) v4∧OS 1004 g w 9 (s:List Str) v4) (fun X7 k7 hk7 h=>?_) ?_))
 ·refine E_seq (E_region (EL_do .plain rfl (D_load (g := g2) Tryz.isAgg36 Tryz.sizeOf36 rfl q1 fun v8 r8 => ?_)))
  obtain ⟨i7,mE,h⟩:=bsome h
  refine EL_do .plain rfl (D_call (g:=g2) (vs:=[v8]) en23 (.cons rfl .nil) (wk23 r8 mE) fun g9 w9_ v9 hs hr=>?_)
  have hfr:=hfr.ext hs
  have q1:=q1.ext hs
  have q2:=q2.ext hs
  subst hr
  refine EL_at (.int .i64 (i7)) rfl rfl ?_
  refine EL_nil (thn_n (E_seq (E_region (EL_mw (.int .i64 (i7)) rfl rfl ?_))))
  refine EL_in (.bool ((i7 != (0:Int)))) rfl rfl rfl rfl ?_
  refine EL_nil (thn_n ?_)
  rcases csome h with ⟨y9,h⟩ | ⟨y9,h⟩
  ·refine E_ct y9 rfl ?_
   refine E_seq (E_region (EL_mw (.int .i64 (i7)) rfl rfl ?_))
   refine EL_at (.slice none 0 0) rfl rfl ?_
   refine EL_at (.int .i64 (i7)) rfl rfl ?_
   refine EL_nil (thn_n (E_ret (thn_r ?_)))
   obtain rfl:=sinj h
   exact end2 rfl rfl (show _=.slice none 0 0 from rfl) (show _=.int .i64 (i7) from rfl) ⟨_,hfr,_,_,rfl,RV_nil,rfl⟩
  ·refine E_cf y9 rfl ?_
   exact E_skip (thn_n (hk7 ([]) _ _ ⟨g9,(.slice none 0 0),hfr,rfl,q1,rfl,q2,rfl,RV_nil,OS.nil⟩ h))
 ·rintro l8 gG sG ⟨xD, cC, hfr, yA, m7, n8, t5, mC, x8, a9⟩ h
  refine E_joinC h (fun (s:(List Str)) e w=>∃ (g:Gh) (v4:Value),Fr gI wI g w∧e 2=p1∧PT g.m w (x0:TieHarness) p1∧e 3=p2∧PT g.m w (x1:Design) p2∧e 4=v4∧RV g.m w (s:List Str) v4∧OS 1004 g w 9 (s:List Str) v4) (fun X22 vD oE h=>?_) ?_
  ·refine E_seq (E_region (EL_do .plain rfl (D_load (g := xD) Tryz.isAgg29 Tryz.sizeOf29 n8 t5 fun zE cF => ?_)))
   obtain ⟨x6,rE,h⟩:=bsome h
   refine EL_do .plain rfl (D_call (g:=xD) (vs:=[zE]) en24 (.cons rfl .nil) (wk24 cF rE) fun mB hG xG hs hr=>?_)
   have hfr:=hfr.ext hs
   have m7:=m7.ext hs
   have t5:=t5.ext hs
   have x8:=x8.ext hs
   have a9:=a9.ext hs
   subst hr
   refine EL_at (.int .i64 (x6)) rfl rfl ?_
   refine EL_nil (thn_n (E_block ?_))
   refine E_seq (E_region (EL_mw (.int .i64 (x6)) rfl rfl ?_))
   refine EL_in (.bool ((x6 != (0:Int)))) rfl rfl rfl rfl ?_
   refine EL_at (.bool ((x6 != (0:Int)))) rfl rfl ?_
   refine EL_nil (thn_n ?_)
   rcases csome h with ⟨z9,h⟩ | ⟨z9,h⟩
   ·refine E_ct z9 rfl ?_
    refine E_seq (E_region (EL_mw (.int .i64 (x6)) rfl rfl ?_))
    refine EL_at (.slice none 0 0) rfl rfl ?_
    refine EL_at (.int .i64 (x6)) rfl rfl ?_
    refine EL_nil (thn_n (E_ret (blk_r ?_)))
    refine thn_r ?_
    obtain rfl:=sinj h
    exact end2 rfl rfl (show _=.slice none 0 0 from rfl) (show _=.int .i64 (x6) from rfl) ⟨_,hfr,_,_,rfl,RV_nil,rfl⟩
   ·refine E_cf z9 rfl ?_
    refine E_seq (E_region (EL_p (fPtr p2 0) (P_fieldAddr at_29_0 n8 (PT.ptr t5)) rfl ?_))
    have dF:=PT_field (part_Design_0).1 t5
    refine EL_do .plain rfl (D_load (g:=mB) Tryz.isAgg3 Tryz.sizeOf3 rfl dF fun yG eF=>?_)
    obtain rfl:=RV_int.1 eF
    refine EL_p (fPtr p1 0) (P_fieldAddr at_36_0 yA (PT.ptr m7)) rfl ?_
    have rF:=PT_field (part_TieHarness_0).1 m7
    refine EL_do .plain rfl (D_load (g:=mB) Tryz.isAgg3 Tryz.sizeOf3 rfl rF fun zG sF=>?_)
    obtain rfl:=RV_int.1 sF
    refine EL_in (.bool (((x1).Hooks != (x0).Hooks))) rfl rfl rfl rfl ?_
    refine EL_at (.bool (((x1).Hooks != (x0).Hooks))) rfl rfl ?_
    refine EL_nil (thn_n ?_)
    rcases csome h with ⟨bA,h⟩ | ⟨bA,h⟩
    ·refine E_ct bA rfl ?_
     refine E_seq (E_region (EL_at (.slice none 0 0) rfl rfl ?_))
     refine EL_at (.int .i64 (4)) rfl rfl ?_
     refine EL_nil (thn_n (E_ret (blk_r ?_)))
     refine thn_r ?_
     obtain rfl:=sinj h
     exact end2 rfl rfl (show _=.slice none 0 0 from rfl) (show _=.int .i64 (4) from rfl) ⟨_,hfr,_,_,rfl,RV_nil,rfl⟩
    ·refine E_cf bA rfl ?_
     exact E_skip (blk_n (thn_n (oE (l8) _ _ ⟨mB,(cC),hfr,yA,m7,n8,t5,mC,x8,a9⟩ h)))
  ·rintro rA iG aH ⟨yD, qC, hfr, rC, uC, vC, aB, aD, bD, cD⟩ h
   obtain ⟨g8,hx,h⟩:=bsome h
   refine E_join (fun e w=>∃ (g:Gh) (v4:Value),Fr gI wI g w∧e 4=v4∧RV g.m w (g8:List Str) v4∧OS 1004 g w 9 (g8:List Str) v4) (fun Q' hQ=>?_) (fun jG cH hR=>?_)
   ·replace h := hx
    clear hx
    refine E_seq (E_region (EL_p (fPtr p2 1) (P_fieldAddr at_29_1 vC (PT.ptr aB)) rfl ?_))
    have tF:=PT_field (part_Design_1).1 aB
    refine EL_do .plain rfl (D_load (g:=yD) Tryz.isAgg27 Tryz.sizeOf27 rfl tF fun k9 zD=>?_)
    refine EL_p (.int .i64 (((x1).Rows).length:Int)) (P_len Tryz.underlying27 rfl zD) rfl ?_
    refine EL_mw (.int .i64 (0)) rfl rfl ?_
    refine EL_nil (thn_n (E_block ?_))
    refine E_lp h (fun (s:(List Str) × Int) e w=>∃ (g:Gh) (v4:Value),Fr gI wI g w∧e 2=p1∧PT g.m w (x0:TieHarness) p1∧e 4=v4∧RV g.m w (s.1:List Str) v4∧OS 1004 g w 9 (s.1:List Str) v4∧e 28=k9∧RV g.m w ((x1).Rows:List Int) k9∧e 29=.int .i64 ((((x1).Rows).length:Int))∧e 30=.int .i64 (s.2)) ⟨yD,(qC),hfr,rC,uC,aD,bD,cD,rfl,zD,rfl,rfl⟩ (fun X61 uD uE=>?_)
    rintro ⟨m8,o0⟩ kG dH ⟨l9,eD,hfr,dB,l5,iB,x5,i6,n9,u3,u9,k8⟩ h
    refine E_seq (E_region (EL_p (.bool ((decide (o0 < (((x1).Rows).length:Int))))) (P_int k8 u9 rfl) rfl ?_))
    refine EL_nil (thn_n (E_seq ?_))
    rcases csome h with ⟨iA,h⟩ | ⟨iA,h⟩
    ·refine E_ct iA rfl ?_
     refine E_skip (thn_n ?_)
     obtain ⟨y6,hx,h⟩:=bsome h
     refine E_join (fun e w=>∃ (g:Gh) (v4:Value),Fr gI wI g w∧e 2=p1∧PT g.m w (x0:TieHarness) p1∧e 4=v4∧RV g.m w (y6:List Str) v4∧OS 1004 g w 9 (y6:List Str) v4∧e 28=k9∧RV g.m w ((x1).Rows:List Int) k9∧e 29=.int .i64 ((((x1).Rows).length:Int))∧e 30=.int .i64 (o0)) (fun Q' hQ=>?_) (fun lG gH hR=>?_)
     ·replace h := hx
      clear hx
      refine E_block ?_
      refine E_seq (E_region ?_)
      obtain ⟨d9,nB,h⟩:=bsome h
      refine EL_p (ePtr k9 o0 1) (P_indexAddr (α:=Int) Tryz.underlying27 Tryz.sizeOf3 n9 u3 k8 nB) rfl ?_
      have uF:=PT_idx u3 nB
      refine EL_do .plain rfl (D_load (g:=l9) Tryz.isAgg3 Tryz.sizeOf3 rfl uF fun iH vF=>?_)
      obtain rfl:=RV_int.1 vF
      refine EL_at (.int .i64 (d9)) rfl rfl ?_
      refine EL_nil (thn_n (E_region (EL_mv iB rfl ?_)))
      refine EL_do .plain rfl (D_load (g:=l9) Tryz.isAgg36 Tryz.sizeOf36 dB l5 fun oB aE=>?_)
      have bE:RV l9.m _ (⟨x0⟩:TieTieHarness) (.agg (setCh [[.int .i64 0,.slice none 0 0]] [(0,oB)]).flatten.toArray):=RV_build rfl (rep_last (RV.cells aE))
      generalize vE:(Value.agg (setCh [[.int .i64 0,.slice none 0 0]] [(0,oB)]).flatten.toArray)=iE at bE
      refine EL_p iE (vE ▸ P_build (vs:=[(0,oB)]) [[.int .i64 0,.slice none 0 0]] lay_79 rfl rfl (.cons rfl .nil) ⟨⟨_,rfl,cells_size aE⟩,trivial⟩) rfl ?_
      refine EL_mw (.int .i64 (d9)) rfl rfl ?_
      obtain ⟨y81,xE,h⟩:=bsome h
      refine EL_do .plain rfl (D_call (g:=l9) (vs:=[iE,.int .i64 (d9)]) en25 (.cons rfl (.cons rfl .nil)) (wk25 bE xE) fun xF mG jH hs hr=>?_)
      have hfr:=hfr.ext hs
      have l5:=l5.ext hs
      have x5:=x5.ext hs
      have i6:=i6.ext hs
      have u3:=u3.ext hs
      subst hr
      refine EL_do .plain rfl (D_buildSlice (g:=xF) 3039 (xs:=([y81]:List Str)) (vs:=[Str.v (y81)]) Tryz.underlying44 Tryz.sizeOf9 Tryz.zeroValue9 rfl rfl (.cons rfl .nil) (RVs.cons (RV_str.2 rfl) RVs.nil) rfl rfl fun yF kH lH hs o82 zF hxt hfl=>?_)
      have hfr:=hfr.stp hs
      have l5:=l5.stp hs
      have x5:=x5.stp hs
      have i6:=i6.stp hs rfl
      have u3:=u3.stp hs
      obtain ⟨y84,yE,h⟩:=bsome h
      refine EL_do .plain rfl (D_append (g:=yF) (i:=1004) Tryz.underlying44 info_9 rfl rfl i6 x5 rfl zF yE fun aG mH lE hs o83 bG _=>?_)
      have hfr:=hfr.stp hs
      have l5:=l5.stp hs
      have u3:=u3.stp hs
      refine EL_at lE rfl rfl ?_
      refine EL_nil (blk_n ?_)
      obtain rfl:=sinj h
      exact hQ _ _ ⟨aG,(lE),hfr,dB,l5,rfl,bG,o83,n9,u3,u9,k8⟩
     ·clear hx
      obtain ⟨cG,gD,hfr,iD,jD,lD,nD,oD,tB,vB,yB,zB⟩:=hR
      refine E_region (EL_in (.int .i64 ((w64 (o0 + (1:Int))))) zB rfl rfl rfl ?_)
      refine EL_mw (.int .i64 ((w64 (o0 + (1:Int))))) rfl rfl ?_
      exact EL_nil (thn_n (uE (y6,(w64 (o0 + (1:Int)))) _ _ ⟨cG,(gD),hfr,iD,jD,lD,nD,oD,tB,vB,yB,rfl⟩ h))
    ·refine E_cf iA rfl ?_
     refine E_exit ?_
     refine thn_e ?_
     refine thn_e ?_
     refine blk_hit ?_
     obtain rfl:=sinj h
     exact hQ _ _ ⟨l9,(eD),hfr,iB,x5,i6⟩
   ·clear hx
    obtain ⟨nH,lB,hfr,sD,tD,eG⟩:=hR
    refine E_seq (E_region (EL_mv sD rfl ?_))
    refine EL_at lB rfl rfl ?_
    refine EL_at (.int .i64 (0)) rfl rfl ?_
    refine EL_nil (thn_n (E_ret ?_))
    obtain rfl:=sinj h
    exact end2 rfl rfl (show _=lB from rfl) (show _=.int .i64 (0) from rfl) ⟨_,hfr,_,_,rfl,tD,rfl⟩
def f22 (x0:TieTieGroup):Option ((List Int)):=
 (f46 (((x0).TieGroup).First) (((x0).TieGroup).Last)).bind fun y9=>
 (f45 y9).bind fun y11=>
 Option.bind (α:=(List Int)) (
  bif (((x0).TieGroup).Way == (2 : Int)) then
   lp (σ:=(List Int) × Int) (fun iB (u3,o0)=>
    jn (σ:=Unit) (fun _=>
     Option.bind (α:=(List Int)) (
      (idx u3 o0).bind fun m7=>
      (apnd 8 u3 (([m7]:List Int))).bind fun y56=>
      some (y56)
      ) fun l5=>
     iB (l5,(w64 (o0 - (1:Int))))
     ) fun lB=>
    bif (decide (o0 > (0 : Int))) then
     lB ()
    else
     some (u3)
    ) big (y11,(w64 (((y11).length:Int) - (2:Int))))
  else
   some (y11)
  ) fun i6=>
 some (i6)
theorem en22:Enters Tryz.prog 22:=enters_of Tryz.func22 (by kernel_rfl) rfl
theorem wk22 {gI:Gh} {wI:World} {x0:TieTieGroup} {up0:Value} (rp0:RV gI.m wI x0 up0) {r:(List Int)} (h:f22 x0=some r):Fn Tryz.prog 22 #[up0] gI wI (fun m w v=>RV m w (r) v):=by
 unfold f22 at h
 refine fn_of_E Tryz.func22 rfl (Nat.le_of_ble_eq_true rfl) fun g0 hm hfr=>?_
 have rp0:RV g0.m wI x0 up0:=hm ▸ rp0
 show E _ 32 none _ _ _ _ _
 refine E_seq (E_region (EL_do .plain rfl (D_box (g:=g0) rfl rp0 fun g1 w1 p1 hs q1=>?_)))
 have hfr:=hfr.ext hs
 refine EL_at (.slice none 0 0) rfl rfl ?_
 refine EL_nil (thn_n (E_seq (E_region (EL_p (fPtr p1 0) (P_fieldAddr at_74_0 rfl (PT.ptr q1)) rfl ?_))))
 have q2:=PT_field (part_TieTieGroup_0).1 q1
 refine EL_p (fPtr (fPtr p1 0) 0) (P_fieldAddr at_42_0 rfl (PT.ptr q2)) rfl ?_
 have q3:=PT_field (part_TieGroup_0).1 q2
 refine EL_do .plain rfl (D_load (g:=g1) Tryz.isAgg3 Tryz.sizeOf3 rfl q3 fun v4 r4=>?_)
 obtain rfl:=RV_int.1 r4
 refine EL_p (fPtr p1 0) (P_fieldAddr at_74_0 rfl (PT.ptr q1)) rfl ?_
 have q5:=PT_field (part_TieTieGroup_0).1 q1
 refine EL_p (fPtr (fPtr p1 0) 1) (P_fieldAddr at_42_1 rfl (PT.ptr q5)) rfl ?_
 have q6:=PT_field (part_TieGroup_1).1 q5
 refine EL_do .plain rfl (D_load (g:=g1) Tryz.isAgg3 Tryz.sizeOf3 rfl q6 fun v7 r7=>?_)
 obtain rfl:=RV_int.1 r7
 obtain ⟨y9,mC,h⟩:=bsome h
 refine EL_do .plain rfl (D_call (g:=g1) (vs:=[.int .i64 (((x0).TieGroup).First),.int .i64 (((x0).TieGroup).Last)]) en46 (.cons rfl (.cons rfl .nil)) (wk46  mC) fun g8 w8_ v8 hs hr=>?_)
 have hfr:=hfr.ext hs
 have q1:=q1.ext hs
 have r8:=hr
 obtain ⟨y11,vB,h⟩:=bsome h
 refine EL_do .plain rfl (D_callG (g:=g8) (vs:=[v8]) en45 (.cons rfl .nil) (u45 (iO:=4012) r8 vB) fun l9 sD k8 hs m10=>?_)
 obtain ⟨o10,n9⟩:=m10
 have hfr:=hfr.ext hs
 have q1:=q1.ext hs
 refine EL_at k8 rfl rfl ?_
 refine EL_nil (thn_n ?_)
 obtain ⟨i6,hx,h⟩:=bsome h
 refine E_join (fun e w=>∃ (g:Gh) (v3:Value),Fr gI wI g w∧e 3=v3∧RV g.m w (i6:List Int) v3∧OS 4012 g w 3 (i6:List Int) v3) (fun Q' hQ=>?_) (fun jD tD hR=>?_)
 ·replace h := hx
  clear hx
  refine E_seq (E_region (EL_p (fPtr p1 0) (P_fieldAddr at_74_0 rfl (PT.ptr q1)) rfl ?_))
  have mB:=PT_field (part_TieTieGroup_0).1 q1
  refine EL_p (fPtr (fPtr p1 0) 2) (P_fieldAddr at_42_2 rfl (PT.ptr mB)) rfl ?_
  have qC:=PT_field (part_TieGroup_2).1 mB
  refine EL_do .plain rfl (D_load (g:=l9) Tryz.isAgg40 Tryz.sizeOf40 rfl qC fun uD rC=>?_)
  obtain rfl:=RV_int.1 rC
  refine EL_in (.bool ((((x0).TieGroup).Way == (2:Int)))) rfl rfl rfl rfl ?_
  refine EL_nil (thn_n ?_)
  rcases csome h with ⟨y6,h⟩ | ⟨y6,h⟩
  ·refine E_ct y6 rfl ?_
   refine E_seq (E_region (EL_mw k8 rfl rfl ?_))
   refine EL_p (.int .i64 ((y11).length:Int)) (P_len Tryz.underlying27 rfl n9) rfl ?_
   refine EL_in (.int .i64 ((w64 (((y11).length:Int) - (2:Int))))) rfl rfl rfl rfl ?_
   refine EL_at (.int .i64 ((w64 (((y11).length:Int) - (2:Int))))) rfl rfl ?_
   refine EL_nil (thn_n (E_block ?_))
   refine E_lp h (fun (s:(List Int) × Int) e w=>∃ (g:Gh) (v3:Value),Fr gI wI g w∧e 3=v3∧RV g.m w (s.1:List Int) v3∧OS 4012 g w 3 (s.1:List Int) v3∧e 4=.int .i64 (s.2)) ⟨l9,(k8),hfr,rfl,n9,o10,rfl⟩ (fun X39 iB yB=>?_)
   rintro ⟨u3,o0⟩ lD vD ⟨nB,t5,hfr,l8,m8,n8,x8⟩ h
   refine E_joinC h (fun (s:Unit) e w=>∃ (g:Gh) ,Fr gI wI g w∧e 3=t5∧RV g.m w (u3:List Int) t5∧OS 4012 g w 3 (u3:List Int) t5∧e 4=.int .i64 (o0)) (fun X42 lB zB h=>?_) ?_
   ·refine E_seq (E_region (EL_mv x8 rfl ?_))
    refine EL_in (.bool ((decide (o0 > (0:Int))))) rfl rfl rfl rfl ?_
    refine EL_nil (thn_n ?_)
    rcases csome h with ⟨i7,h⟩ | ⟨i7,h⟩
    ·refine E_ct i7 rfl ?_
     exact E_skip (thn_n (zB () _ _ ⟨nB,hfr,l8,m8,n8,x8⟩ h))
    ·refine E_cf i7 rfl ?_
     refine E_exit ?_
     refine thn_e ?_
     refine thn_e ?_
     refine blk_hit ?_
     obtain rfl:=sinj h
     exact hQ _ _ ⟨nB,(t5),hfr,l8,m8,n8⟩
   ·rintro _ nD xD ⟨oB, hfr, a9, x5, x6, d9⟩ h
    obtain ⟨l5,hx,h⟩:=bsome h
    refine E_join (fun e w=>∃ (g:Gh) (v3:Value),Fr gI wI g w∧e 3=v3∧RV g.m w (l5:List Int) v3∧OS 4012 g w 3 (l5:List Int) v3∧e 4=.int .i64 (o0)) (fun Q' hQ=>?_) (fun oD yD hR=>?_)
    ·replace h := hx
     clear hx
     refine E_block ?_
     refine E_region (EL_mv a9 rfl ?_)
     refine EL_mv a9 rfl ?_
     refine EL_mv d9 rfl ?_
     obtain ⟨m7,u9,h⟩:=bsome h
     refine EL_p (ePtr t5 o0 1) (P_indexAddr (α:=Int) Tryz.underlying27 Tryz.sizeOf3 rfl x5 rfl u9) rfl ?_
     have uC:=PT_idx x5 u9
     refine EL_do .plain rfl (D_load (g:=oB) Tryz.isAgg3 Tryz.sizeOf3 rfl uC fun zD vC=>?_)
     obtain rfl:=RV_int.1 vC
     refine EL_do .plain rfl (D_buildSlice (g:=oB) 3029 (xs:=([m7]:List Int)) (vs:=[.int .i64 (m7)]) Tryz.underlying27 Tryz.sizeOf3 Tryz.zeroValue3 rfl rfl (.cons rfl .nil) (RVs.cons (RV_int.2 rfl) RVs.nil) rfl rfl fun aD aE bE hs o54 bD hxt hfl=>?_)
     have hfr:=hfr.stp hs
     have x5:=x5.stp hs
     have x6:=x6.stp hs rfl
     obtain ⟨y56,cC,h⟩:=bsome h
     refine EL_do .plain rfl (D_append (g:=aD) (i:=4012) Tryz.underlying27 info_3 rfl rfl x6 x5 rfl bD cC fun cD iE tB hs o55 eD _=>?_)
     have hfr:=hfr.stp hs
     refine EL_at tB rfl rfl ?_
     refine EL_nil (blk_n ?_)
     obtain rfl:=sinj h
     exact hQ _ _ ⟨cD,(tB),hfr,rfl,eD,o55,d9⟩
    ·clear hx
     obtain ⟨gD,z9,hfr,bA,iA,rA,yA⟩:=hR
     refine E_region (EL_mv yA rfl ?_)
     refine EL_in (.int .i64 ((w64 (o0 - (1:Int))))) rfl rfl rfl rfl ?_
     refine EL_at (.int .i64 ((w64 (o0 - (1:Int))))) rfl rfl ?_
     exact EL_nil (thn_n (yB (l5,(w64 (o0 - (1:Int)))) _ _ ⟨gD,(z9),hfr,bA,iA,rA,rfl⟩ h))
  ·refine E_cf y6 rfl ?_
   refine E_skip ?_
   obtain rfl:=sinj h
   exact hQ _ _ ⟨l9,(k8),hfr,rfl,n9,o10⟩
 ·clear hx
  obtain ⟨lE,k9,hfr,aB,dB,iD⟩:=hR
  refine E_seq (E_region (EL_mv aB rfl ?_))
  refine EL_at k9 rfl rfl ?_
  refine EL_nil (thn_n (E_ret ?_))
  obtain rfl:=sinj h
  exact end1 rfl rfl (show _=k9 from rfl) ⟨_,hfr,dB⟩
def f52 (x0:BoxShuttle) (z0:BoxBoxLoom):Option (Bool):=
 (f53 z0 x0).bind fun y5=>
 some ((!y5))
theorem en52:Enters Tryz.prog 52:=enters_of Tryz.func52 (by kernel_rfl) rfl
theorem wk52 {gI:Gh} {wI:World} {x0:BoxShuttle} {z0:BoxBoxLoom} {up0:Value} (rp0:RV gI.m wI x0 up0) {pf0:Value} (qf0:PT gI.m wI z0 pf0) {r:Bool} (h:f52 x0 z0=some r):Fn Tryz.prog 52 #[up0,pf0] gI wI (fun _ _ v=>v=.bool (r)):=by
 unfold f52 at h
 refine fn_of_E Tryz.func52 rfl (Nat.le_of_ble_eq_true rfl) fun g0 hm hfr=>?_
 have qf0:PT g0.m wI z0 pf0:=hm ▸ qf0
 have rp0:RV g0.m wI x0 up0:=hm ▸ rp0
 show E _ 8 none _ _ _ _ _
 refine E_seq (E_region (EL_do .plain rfl (D_box (g:=g0) rfl rp0 fun g1 w1 p1 hs q1=>?_)))
 have hfr:=hfr.ext hs
 have qf0:=qf0.ext hs
 refine EL_at (.bool false) rfl rfl ?_
 refine EL_nil (thn_n (E_seq (E_region (EL_do .plain rfl (D_load (g:=g1) Tryz.isAgg83 Tryz.sizeOf83 rfl qf0 fun v2 r2=>?_)))))
 refine EL_do .plain rfl (D_load (g:=g1) Tryz.isAgg65 Tryz.sizeOf65 rfl q1 fun v3 r3=>?_)
 obtain ⟨y5,hy5,h⟩:=bsome h
 refine EL_do .plain rfl (D_call (g:=g1) (vs:=[v2,v3]) en53 (.cons rfl (.cons rfl .nil)) (wk53 r2 r3 hy5) fun g4 w4_ v4 hs hr=>?_)
 have hfr:=hfr.ext hs
 subst hr
 refine EL_p (.bool (!y5)) (P_not rfl) rfl ?_
 refine EL_at (.bool (!y5)) rfl rfl ?_
 refine EL_nil (thn_n (E_ret ?_))
 obtain rfl:=sinj h
 exact end1 rfl rfl (show _=.bool (!y5) from rfl) ⟨_,hfr,rfl⟩
def f57 (x0:BoxMill) (x1:BoxRace):Option (It (BoxPick × BoxStep)):=
 some ((fun σ cons s=>f74 ((⟨x0⟩:Ptr BoxMill)) x1 σ cons s))
theorem en57:Enters Tryz.prog 57:=enters_of Tryz.func57 (by kernel_rfl) rfl
theorem wk57 {gI:Gh} {wI:World} {x0:BoxMill} {x1:BoxRace} {up0:Value} (rp0:PT gI.m wI x0 up0) {up1:Value} (rp1:RV gI.m wI x1 up1) {r:It (BoxPick × BoxStep)} (h:f57 x0 x1=some r):Fn Tryz.prog 57 #[up0,up1] gI wI (fun m w v=>ItV Tryz.prog (RA2 (α:=BoxPick) (β:=BoxStep)) (r) v m w):=by
 unfold f57 at h
 refine fn_of_E Tryz.func57 rfl (Nat.le_of_ble_eq_true rfl) fun g0 hm hfr=>?_
 have hone500200:=PT.one rp0
 have rp0:PT g0.m wI x0 up0:=hm ▸ rp0
 have rp1:RV g0.m wI x1 up1:=hm ▸ rp1
 show E _ 6 none _ _ _ _ _
 refine E_seq (E_region (EL_do .plain rfl (D_box (g:=g0) (a:=(⟨up0,hone500200⟩:Fv)) rfl (RV_fv.2 rfl) fun g1 w1 p1 hs q1=>?_)))
 have hfr:=hfr.ext hs
 have rp0:=rp0.ext hs
 have rp1:=rp1.ext hs
 refine EL_do .plain rfl (D_box (g:=g1) rfl rp1 fun g2 w2 p2 hs q2=>?_)
 have hfr:=hfr.ext hs
 have rp0:=rp0.ext hs
 have q1:=q1.ext hs
 refine EL_at (.nilFunc) rfl rfl ?_
 refine EL_nil (thn_n (E_seq (E_region (EL_p ((.func (.func 74) #[] #[p1,p2])) (P_makeFunc (capf_0_2 (show ev _ _=p1 from rfl) (show ev _ _=p2 from rfl))) rfl ?_))))
 refine EL_at ((.func (.func 74) #[] #[p1,p2])) rfl rfl ?_
 refine EL_nil (thn_n (E_ret ?_))
 obtain rfl:=sinj h
 exact end1 rfl rfl (show _=(.func (.func 74) #[] #[p1,p2]) from rfl) ⟨_,hfr,(show ItV Tryz.prog (RA2 (α:=BoxPick) (β:=BoxStep)) (fun σ cons s=>f74 ((⟨x0⟩:Ptr BoxMill)) x1 σ cons s) ((.func (.func 74) #[] #[p1,p2])) g2.m w2 from ⟨74,#[],#[p1,p2],rfl,en74,fun g' w' hch σ cons s s' h=>wk74  ((PT.ptrOf q1 rp0).ch hch) (q2.ch hch) h⟩)⟩
def f6 (x0:Int) (x1:List TieGroup):Option (TieHarness × Int × Int):=
 jn (σ:=TieHarness) (fun yD=>
  jn (σ:=TieHarness × (List Int)) (fun (eF,y9)=>
   some ((⟨x0,y9⟩:TieHarness),(0:Int),(0:Int))
   ) fun rF=>
  lp (σ:=TieHarness × (List Int) × Int) (fun sF (m7,g8,u3)=>
   bif (decide (u3 < ((x1).length : Int))) then
    jn (σ:=TieHarness × (List Int)) (fun (aB,dB)=>
     sF (aB,dB,(w64 (u3 + (1:Int))))
     ) fun tF=>
    (idx x1 u3).bind fun l5=>
    jn (σ:=TieHarness) (fun z9=>
     (f22 ((⟨l5⟩:TieTieGroup))).bind fun rA=>
     (f21 rA ((l5).Times)).bind fun iB=>
     (apnd 8 g8 iB).bind fun yA=>
     bif (decide (((yA).length : Int) > (96 : Int))) then
      some (z9,u3,(8:Int))
     else
      tF (z9,yA)
     ) fun uF=>
    Option.bind (α:=Bool) (
     (f20 ((0:Int)) ((w64 (x0 - (1:Int)))) (([(l5).First,(l5).Last]:List Int))).bind fun u9=>
     bif (!u9) then
      some (true)
     else
      bif ((l5).Way != (1 : Int)) then
       bif ((l5).Way != (2 : Int)) then
        some (true)
       else
        (f20 ((1:Int)) ((8:Int)) (([(l5).Times]:List Int))).bind fun mC=>
        some ((!mC))
      else
       (f20 ((1:Int)) ((8:Int)) (([(l5).Times]:List Int))).bind fun qC=>
       some ((!qC))
     ) fun r8=>
    bif r8 then
     some (m7,u3,(2:Int))
    else
     uF (m7)
   else
    rF (m7,g8)
   ) big (yD,[],(0:Int))
  ) fun qI=>
 (f20 ((1:Int)) ((24:Int)) (([x0]:List Int))).bind fun zD=>
 bif (!zD) then
  some ((⟨0,[]⟩:TieHarness),(0:Int),(2:Int))
 else
  bif (decide (((x1).length : Int) > (8 : Int))) then
   some ((⟨0,[]⟩:TieHarness),(0:Int),(5:Int))
  else
   bif (((x1).length : Int) == (0 : Int)) then
    some ((⟨0,[]⟩:TieHarness),(0:Int),(7:Int))
   else
    qI ((⟨0,[]⟩:TieHarness))
theorem en6:Enters Tryz.prog 6:=enters_of Tryz.func6 (by kernel_rfl) rfl
theorem wk6 {gI:Gh} {wI:World} {x0:Int} {x1:List TieGroup} {up1:Value} (rp1:RV gI.m wI x1 up1) {r:TieHarness × Int × Int} (h:f6 x0 x1=some r):Fn Tryz.prog 6 #[.int .i64 (x0),up1] gI wI (fun m w v=>∃ y0 y1 y2,v=.tuple #[y0,y1,y2]∧RV m w (r.1) y0∧y1=.int .i64 (r.2.1)∧y2=.int .i64 (r.2.2)):=by
 unfold f6 at h
 refine fn_of_E Tryz.func6 rfl (Nat.le_of_ble_eq_true rfl) fun g0 hm hfr=>?_
 have rp1:RV g0.m wI x1 up1:=hm ▸ rp1
 show E _ 78 none _ _ _ _ _
 refine E_seq (E_region (EL_do .plain rfl (D_allocOc (g:=g0) 2004 (⟨0,[]⟩:TieHarness) Tryz.zeroValue36 (fun m w=>⟨_,(rep_two rep_int rep_nil),rfl⟩) fun g1 w1 p1 hs b1 cb=>?_)))
 have hfr:=hfr.stp hs
 have rp1:=rp1.stp hs
 have lB:OSF 2004 60401 1 g1 w1 3 36 ([]:List Int) p1:=cb.osf (by rfl)
 clear cb
 refine EL_at (.int .i64 (0)) rfl rfl ?_
 refine EL_at (.int .i64 (0)) rfl rfl ?_
 refine EL_nil (thn_n (E_joinC h (fun (s:TieHarness) e w=>∃ (g:Gh) ,Fr gI wI g w∧e 0=.int .i64 (x0)∧e 1=up1∧RV g.m w (x1:List TieGroup) up1∧e 4=p1∧OB 2004 g w 36 (s:TieHarness) p1∧OSF 2004 60401 1 g w 3 36 ((s).Warps) p1) (fun X17 qI sI h=>?_) ?_))
 ·refine E_block ?_
  refine E_seq (E_region (EL_mw (.int .i64 (x0)) rfl rfl ?_))
  refine EL_do .plain rfl (D_buildSlice (g:=g1) 3012 (xs:=([x0]:List Int)) (vs:=[.int .i64 (x0)]) Tryz.underlying27 Tryz.sizeOf3 Tryz.zeroValue3 rfl rfl (.cons rfl .nil) (RVs.cons (RV_int.2 rfl) RVs.nil) rfl rfl fun xK jN yK hs o18 zK hxt hfl=>?_)
  have hfr:=hfr.stp hs
  have rp1:=rp1.stp hs
  have lB:=lB.stp hs rfl
  have b1:=b1.stp hs rfl
  obtain ⟨zD,hy20,h⟩:=bsome h
  refine EL_do .plain rfl (D_call (g:=xK) (vs:=[.int .i64 (1),.int .i64 (24),yK]) en20 (.cons rfl (.cons rfl (.cons rfl .nil))) (wk20 zK hy20) fun mB vL kN hs hr=>?_)
  have hfr:=hfr.ext hs
  have rp1:=rp1.ext hs
  have lB:=lB.ext hs
  have b1:=b1.ext hs
  subst hr
  refine EL_p (.bool (!zD)) (P_not rfl) rfl ?_
  refine EL_at (.bool (!zD)) rfl rfl ?_
  refine EL_nil (thn_n ?_)
  rcases csome h with ⟨gD,h⟩ | ⟨gD,h⟩
  ·refine E_ct gD rfl ?_
   refine E_seq (E_region (EL_do .plain rfl (D_loadO (g:=mB) Tryz.isAgg36 Tryz.sizeOf36 rfl b1 fun aL bL=>?_)))
   refine EL_do .plain rfl (D_storeOc (g:=mB) (v:=aL) Tryz.sizeOf36 rfl b1 rfl bL fun lN mN hs b23 cb=>?_)
   clear cb
   have hfr:=hfr.stp hs
   refine EL_at (.int .i64 (0)) rfl rfl ?_
   refine EL_at (.int .i64 (2)) rfl rfl ?_
   refine EL_nil (thn_n (E_ret (blk_r ?_)))
   refine thn_r ?_
   obtain rfl:=sinj h
   obtain ⟨ad24,cv24,hp24,tI,cr24⟩:=ob_read Tryz.isAgg36 Tryz.sizeOf36 b23
   exact endm_ctt rfl rfl ((show _=p1 from rfl).trans hp24) tI (show _=.int .i64 (0) from rfl) (show _=.int .i64 (2) from rfl) ⟨_,hfr,_,_,_,rfl,cr24,rfl,rfl⟩
  ·refine E_cf gD rfl ?_
   refine E_seq (E_region (EL_mw up1 rfl rfl ?_))
   refine EL_p (.int .i64 ((x1).length:Int)) (P_len Tryz.underlying43 rfl rp1) rfl ?_
   refine EL_in (.bool ((decide (((x1).length:Int) > (8:Int))))) rfl rfl rfl rfl ?_
   refine EL_at (.bool ((decide (((x1).length:Int) > (8:Int))))) rfl rfl ?_
   refine EL_nil (thn_n ?_)
   rcases csome h with ⟨iD,h⟩ | ⟨iD,h⟩
   ·refine E_ct iD rfl ?_
    refine E_seq (E_region (EL_do .plain rfl (D_loadO (g:=mB) Tryz.isAgg36 Tryz.sizeOf36 rfl b1 fun dL eL=>?_)))
    refine EL_do .plain rfl (D_storeOc (g:=mB) (v:=dL) Tryz.sizeOf36 rfl b1 rfl eL fun nN oN hs b27 cb=>?_)
    clear cb
    have hfr:=hfr.stp hs
    refine EL_at (.int .i64 (0)) rfl rfl ?_
    refine EL_at (.int .i64 (5)) rfl rfl ?_
    refine EL_nil (thn_n (E_ret (blk_r ?_)))
    refine thn_r ?_
    obtain rfl:=sinj h
    obtain ⟨ad28,cv28,hp28,uI,cr28⟩:=ob_read Tryz.isAgg36 Tryz.sizeOf36 b27
    exact endm_ctt rfl rfl ((show _=p1 from rfl).trans hp28) uI (show _=.int .i64 (0) from rfl) (show _=.int .i64 (5) from rfl) ⟨_,hfr,_,_,_,rfl,cr28,rfl,rfl⟩
   ·refine E_cf iD rfl ?_
    refine E_seq (E_region (EL_mw up1 rfl rfl ?_))
    refine EL_p (.int .i64 ((x1).length:Int)) (P_len Tryz.underlying43 rfl rp1) rfl ?_
    refine EL_in (.bool ((((x1).length:Int) == (0:Int)))) rfl rfl rfl rfl ?_
    refine EL_at (.bool ((((x1).length:Int) == (0:Int)))) rfl rfl ?_
    refine EL_nil (thn_n ?_)
    rcases csome h with ⟨jD,h⟩ | ⟨jD,h⟩
    ·refine E_ct jD rfl ?_
     refine E_seq (E_region (EL_do .plain rfl (D_loadO (g:=mB) Tryz.isAgg36 Tryz.sizeOf36 rfl b1 fun gL iL=>?_)))
     refine EL_do .plain rfl (D_storeOc (g:=mB) (v:=gL) Tryz.sizeOf36 rfl b1 rfl iL fun pN qN hs b31 cb=>?_)
     clear cb
     have hfr:=hfr.stp hs
     refine EL_at (.int .i64 (0)) rfl rfl ?_
     refine EL_at (.int .i64 (7)) rfl rfl ?_
     refine EL_nil (thn_n (E_ret (blk_r ?_)))
     refine thn_r ?_
     obtain rfl:=sinj h
     obtain ⟨ad32,cv32,hp32,vI,cr32⟩:=ob_read Tryz.isAgg36 Tryz.sizeOf36 b31
     exact endm_ctt rfl rfl ((show _=p1 from rfl).trans hp32) vI (show _=.int .i64 (0) from rfl) (show _=.int .i64 (7) from rfl) ⟨_,hfr,_,_,_,rfl,cr32,rfl,rfl⟩
    ·refine E_cf jD rfl ?_
     exact E_skip (blk_n (thn_n (sI ((⟨0,[]⟩:TieHarness)) _ _ ⟨mB,hfr,rfl,rfl,rp1,rfl,b1,lB⟩ h)))
 ·rintro yD xL rN ⟨jL, hfr, nH, oH, aE, pH, qH, u4_1_33⟩ h
  refine E_seq (E_region (EL_at (.slice none 0 0) rfl rfl ?_))
  refine EL_nil (thn_n (E_joinC h (fun (s:TieHarness × (List Int)) e w=>∃ (g:Gh) (v7:Value),Fr gI wI g w∧e 0=.int .i64 (x0)∧e 4=p1∧OB 2004 g w 36 (s.1:TieHarness) p1∧OSF 2004 60401 1 g w 3 36 ((s.1).Warps) p1∧e 7=v7∧RV g.m w (s.2:List Int) v7∧OS 1007 g w 3 (s.2:List Int) v7) (fun X326 rF sH h=>?_) ?_))
  ·refine E_seq (E_region (EL_mv oH rfl ?_))
   refine EL_p (.int .i64 ((x1).length:Int)) (P_len Tryz.underlying43 rfl aE) rfl ?_
   refine EL_mw (.int .i64 (0)) rfl rfl ?_
   refine EL_nil (thn_n (E_block ?_))
   refine E_lp h (fun (s:TieHarness × (List Int) × Int) e w=>∃ (g:Gh) (v7:Value),Fr gI wI g w∧e 0=.int .i64 (x0)∧e 4=p1∧OB 2004 g w 36 (s.1:TieHarness) p1∧OSF 2004 60401 1 g w 3 36 ((s.1).Warps) p1∧e 7=v7∧RV g.m w (s.2.1:List Int) v7∧OS 1007 g w 3 (s.2.1:List Int) v7∧e 26=up1∧RV g.m w (x1:List TieGroup) up1∧e 27=.int .i64 (((x1).length:Int))∧e 28=.int .i64 (s.2.2)) ⟨jL,(.slice none 0 0),hfr,nH,pH,qH,u4_1_33,rfl,RV_nil,OS.nil,rfl,aE,rfl,rfl⟩ (fun X327 sF tH=>?_)
   rintro ⟨m7,g8,u3⟩ mL yL ⟨lD,k8,hfr,v8,k9,t5,u4_1_328,l9,x5,i6,x8,o0,a9,y6⟩ h
   refine E_seq (E_region (EL_in (.bool ((decide (u3 < ((x1).length:Int))))) y6 a9 rfl rfl ?_))
   refine EL_nil (thn_n (E_seq ?_))
   rcases csome h with ⟨rC,h⟩ | ⟨rC,h⟩
   ·refine E_ct rC rfl ?_
    refine E_skip (thn_n (E_joinC h (fun (s:TieHarness × (List Int)) e w=>∃ (g:Gh) (v7:Value),Fr gI wI g w∧e 0=.int .i64 (x0)∧e 4=p1∧OB 2004 g w 36 (s.1:TieHarness) p1∧OSF 2004 60401 1 g w 3 36 ((s.1).Warps) p1∧e 7=v7∧RV g.m w (s.2:List Int) v7∧OS 1007 g w 3 (s.2:List Int) v7∧e 26=up1∧RV g.m w (x1:List TieGroup) up1∧e 27=.int .i64 (((x1).length:Int))∧e 28=.int .i64 (u3)) (fun X473 tF uH h=>?_) ?_))
    ·refine E_block ?_
     refine E_seq (E_region (EL_mv y6 rfl ?_))
     obtain ⟨l5,bE,h⟩:=bsome h
     refine EL_p (ePtr up1 u3 4) (P_indexAddr (α:=TieGroup) Tryz.underlying43 Tryz.sizeOf42 x8 o0 y6 bE) rfl ?_
     have yI:=PT_idx o0 bE
     refine EL_do .plain rfl (D_load (g:=lD) Tryz.isAgg42 Tryz.sizeOf42 rfl yI fun zI nD=>?_)
     refine EL_do .plain rfl (D_allocOc (g:=lD) 2009 (⟨0,0,0,0⟩:TieGroup) Tryz.zeroValue42 (fun m w=>⟨_,(rep_two rep_int (rep_two rep_int (rep_two rep_int rep_int))),rfl⟩) fun eJ zL m8 hs b477 cb=>?_)
     have hfr:=hfr.stp hs
     have u4_1_328:=u4_1_328.stp hs rfl
     have t5:=t5.stp hs rfl
     have x5:=x5.stp hs
     have i6:=i6.stp hs rfl
     have o0:=o0.stp hs
     have nD:=nD.stp hs
     clear cb
     refine EL_at (.int .i64 (u3)) rfl rfl ?_
     refine EL_do .plain rfl (D_storeOc (g:=eJ) (v:=zI) Tryz.sizeOf42 rfl b477 rfl nD fun oD aM hs b478 cb=>?_)
     clear cb
     have hfr:=hfr.stp hs
     have u4_1_328:=u4_1_328.stp hs rfl
     have t5:=t5.stp hs rfl
     have x5:=x5.stp hs
     have i6:=i6.stp hs rfl
     have o0:=o0.stp hs
     refine EL_nil (thn_n (E_joinC h (fun (s:TieHarness) e w=>∃ (g:Gh) ,Fr gI wI g w∧e 0=.int .i64 (x0)∧e 4=p1∧OB 2004 g w 36 (s:TieHarness) p1∧OSF 2004 60401 1 g w 3 36 ((s).Warps) p1∧e 7=k8∧RV g.m w (g8:List Int) k8∧OS 1007 g w 3 (g8:List Int) k8∧e 8=.int .i64 (u3)∧e 9=m8∧OB 2009 g w 42 (l5:TieGroup) m8∧e 26=up1∧RV g.m w (x1:List TieGroup) up1∧e 27=.int .i64 (((x1).length:Int))∧e 28=.int .i64 (u3)) (fun X532 uF xH h=>?_) ?_))
     ·obtain ⟨r8, hx, h⟩ := bsome h
      refine E_join (fun e w=>∃ (g:Gh) ,Fr gI wI g w∧e 0=.int .i64 (x0)∧e 4=p1∧OB 2004 g w 36 (m7:TieHarness) p1∧OSF 2004 60401 1 g w 3 36 ((m7).Warps) p1∧e 7=k8∧RV g.m w (g8:List Int) k8∧OS 1007 g w 3 (g8:List Int) k8∧e 8=.int .i64 (u3)∧e 9=m8∧OB 2009 g w 42 (l5:TieGroup) m8∧e 26=up1∧RV g.m w (x1:List TieGroup) up1∧e 27=.int .i64 (((x1).length:Int))∧e 28=.int .i64 (u3)∧e 58=.bool (r8)) (fun Q' hQ=>?_) (fun nL bM hR=>?_)
      ·replace h := hx
       clear hx
       refine E_region (EL_mv v8 rfl ?_)
       refine EL_in (.int .i64 ((w64 (x0 - (1:Int))))) rfl rfl rfl rfl ?_
       refine EL_p (fPtr m8 0) (P_fieldAddr at_42_0 rfl (OB.ptr b478)) rfl ?_
       refine EL_do .plain rfl (D_loadF (g:=oD) part_TieGroup_0.1 Tryz.isAgg3 Tryz.sizeOf3 rfl b478 fun cM gJ=>?_)
       obtain rfl:=RV_int.1 gJ
       refine EL_p (fPtr m8 1) (P_fieldAddr at_42_1 rfl (OB.ptr b478)) rfl ?_
       refine EL_do .plain rfl (D_loadF (g:=oD) part_TieGroup_1.1 Tryz.isAgg3 Tryz.sizeOf3 rfl b478 fun dM iJ=>?_)
       obtain rfl:=RV_int.1 iJ
       refine EL_do .plain rfl (D_buildSlice (g:=oD) 3039 (xs:=([(l5).First,(l5).Last]:List Int)) (vs:=[.int .i64 ((l5).First),.int .i64 ((l5).Last)]) Tryz.underlying27 Tryz.sizeOf3 Tryz.zeroValue3 rfl rfl (.cons rfl (.cons rfl .nil)) (RVs.cons (RV_int.2 rfl) (RVs.cons (RV_int.2 rfl) RVs.nil)) rfl rfl fun jJ eM kJ hs o561 lJ hxt hfl=>?_)
       have hfr:=hfr.stp hs
       have u4_1_328:=u4_1_328.stp hs rfl
       have t5:=t5.stp hs rfl
       have x5:=x5.stp hs
       have i6:=i6.stp hs rfl
       have o0:=o0.stp hs
       have b478:=b478.stp hs rfl
       obtain ⟨u9,yH,h⟩:=bsome h
       refine EL_do .plain rfl (D_call (g:=jJ) (vs:=[.int .i64 (0),.int .i64 ((w64 (x0 - (1:Int)))),kJ]) en20 (.cons rfl (.cons rfl (.cons rfl .nil))) (wk20 lJ yH) fun n9 oL iM hs hr=>?_)
       have hfr:=hfr.ext hs
       have u4_1_328:=u4_1_328.ext hs
       have t5:=t5.ext hs
       have x5:=x5.ext hs
       have i6:=i6.ext hs
       have o0:=o0.ext hs
       have b478:=b478.ext hs
       subst hr
       refine EL_p (.bool (!u9)) (P_not rfl) rfl ?_
       refine EL_mw (.bool (!u9)) rfl rfl ?_
       rcases csome h with ⟨x6,h⟩ | ⟨x6,h⟩
       ·refine EL_s rfl rfl x6 rfl rfl ?_
        iterate 3 refine EL_s rfl rfl x6 rfl rfl ?_
        refine EL_dead 3 rfl ?_
        refine EL_s rfl rfl x6 rfl rfl ?_
        refine EL_p (.bool true) (P_pick (b:=(!u9)) rfl (pick_t x6 rfl)) rfl ?_
        refine EL_dead 7 rfl ?_
        refine EL_nil ?_
        obtain rfl:=sinj h
        exact hQ _ _ ⟨n9,hfr,v8,k9,t5,u4_1_328,l9,x5,i6,rfl,rfl,b478,x8,o0,a9,y6,rfl⟩
       ·refine EL_y (fPtr m8 2) (P_fieldAddr at_42_2 rfl (OB.ptr b478)) rfl rfl x6 rfl ?_
        refine EL_do (.yes2 rfl rfl x6) rfl (D_loadF (g:=n9) part_TieGroup_2.1 Tryz.isAgg40 Tryz.sizeOf40 rfl b478 fun jM mJ=>?_)
        obtain rfl:=RV_int.1 mJ
        refine EL_y (.bool (((l5).Way != (1:Int)))) (P_int rfl rfl rfl) rfl rfl x6 rfl ?_
        refine EL_y (.bool (((l5).Way != (1:Int)))) (P_move rfl) rfl rfl x6 rfl ?_
        rcases csome h with ⟨l8,h⟩ | ⟨l8,h⟩
        ·refine EL_y (fPtr m8 2) (P_fieldAddr at_42_2 rfl (OB.ptr b478)) rfl rfl l8 rfl ?_
         refine EL_do (.yes2 rfl rfl l8) rfl (D_loadF (g:=n9) part_TieGroup_2.1 Tryz.isAgg40 Tryz.sizeOf40 rfl b478 fun kM nJ=>?_)
         obtain rfl:=RV_int.1 nJ
         refine EL_y (.bool (((l5).Way != (2:Int)))) (P_int rfl rfl rfl) rfl rfl l8 rfl ?_
         refine EL_y (.bool (((l5).Way != (2:Int)))) (P_pick (b:=((l5).Way != (1:Int))) rfl (pick_t l8 rfl)) rfl rfl x6 rfl ?_
         refine EL_p (.bool (((l5).Way != (2:Int)))) (P_pick (b:=(!u9)) rfl (pick_f x6 rfl)) rfl ?_
         refine EL_mw (.bool (((l5).Way != (2:Int)))) rfl rfl ?_
         rcases csome h with ⟨i7,h⟩ | ⟨i7,h⟩
         ·refine EL_s rfl rfl i7 rfl rfl ?_
          iterate 4 refine EL_s rfl rfl i7 rfl rfl ?_
          refine EL_p (.bool true) (P_pick (b:=((l5).Way != (2:Int))) rfl (pick_t i7 rfl)) rfl ?_
          refine EL_nil ?_
          obtain rfl:=sinj h
          exact hQ _ _ ⟨n9,hfr,v8,k9,t5,u4_1_328,l9,x5,i6,rfl,rfl,b478,x8,o0,a9,y6,rfl⟩
         ·refine EL_y (fPtr m8 3) (P_fieldAddr at_42_3 rfl (OB.ptr b478)) rfl rfl i7 rfl ?_
          refine EL_do (.yes2 rfl rfl i7) rfl (D_loadF (g:=n9) part_TieGroup_3.1 Tryz.isAgg3 Tryz.sizeOf3 rfl b478 fun mM oJ=>?_)
          obtain rfl:=RV_int.1 oJ
          refine EL_do (.yes2 rfl rfl i7) rfl (D_buildSlice (g:=n9) 3055 (xs:=([(l5).Times]:List Int)) (vs:=[.int .i64 ((l5).Times)]) Tryz.underlying27 Tryz.sizeOf3 Tryz.zeroValue3 rfl rfl (.cons rfl .nil) (RVs.cons (RV_int.2 rfl) RVs.nil) rfl rfl fun pJ nM qJ hs o573 rJ hxt hfl=>?_)
          have hfr:=hfr.stp hs
          have u4_1_328:=u4_1_328.stp hs rfl
          have t5:=t5.stp hs rfl
          have x5:=x5.stp hs
          have i6:=i6.stp hs rfl
          have o0:=o0.stp hs
          have b478:=b478.stp hs rfl
          obtain ⟨mC,zH,h⟩:=bsome h
          refine EL_do (.yes2 rfl rfl i7) rfl (D_call (g:=pJ) (vs:=[.int .i64 (1),.int .i64 (8),qJ]) en20 (.cons rfl (.cons rfl (.cons rfl .nil))) (wk20 rJ zH) fun sJ pL oM hs hr=>?_)
          have hfr:=hfr.ext hs
          have u4_1_328:=u4_1_328.ext hs
          have t5:=t5.ext hs
          have x5:=x5.ext hs
          have i6:=i6.ext hs
          have o0:=o0.ext hs
          have b478:=b478.ext hs
          subst hr
          refine EL_y (.bool (!mC)) (P_not rfl) rfl rfl i7 rfl ?_
          refine EL_p (.bool (!mC)) (P_pick (b:=((l5).Way != (2:Int))) rfl (pick_f i7 rfl)) rfl ?_
          refine EL_nil ?_
          obtain rfl:=sinj h
          exact hQ _ _ ⟨sJ,hfr,v8,k9,t5,u4_1_328,l9,x5,i6,rfl,rfl,b478,x8,o0,a9,y6,rfl⟩
        ·refine EL_s rfl rfl l8 rfl rfl ?_
         refine EL_s rfl rfl l8 rfl rfl ?_
         refine EL_s rfl rfl l8 rfl rfl ?_
         refine EL_y (.bool false) (P_pick (b:=((l5).Way != (1:Int))) rfl (pick_f l8 rfl)) rfl rfl x6 rfl ?_
         refine EL_p (.bool false) (P_pick (b:=(!u9)) rfl (pick_f x6 rfl)) rfl ?_
         refine EL_mw (.bool false) rfl rfl ?_
         refine EL_y (fPtr m8 3) (P_fieldAddr at_42_3 rfl (OB.ptr b478)) rfl rfl rfl rfl ?_
         refine EL_do (.yes2 rfl rfl rfl) rfl (D_loadF (g:=n9) part_TieGroup_3.1 Tryz.isAgg3 Tryz.sizeOf3 rfl b478 fun pM vJ=>?_)
         obtain rfl:=RV_int.1 vJ
         refine EL_do (.yes2 rfl rfl rfl) rfl (D_buildSlice (g:=n9) 3055 (xs:=([(l5).Times]:List Int)) (vs:=[.int .i64 ((l5).Times)]) Tryz.underlying27 Tryz.sizeOf3 Tryz.zeroValue3 rfl rfl (.cons rfl .nil) (RVs.cons (RV_int.2 rfl) RVs.nil) rfl rfl fun xJ qM yJ hs o578 zJ hxt hfl=>?_)
         have hfr:=hfr.stp hs
         have u4_1_328:=u4_1_328.stp hs rfl
         have t5:=t5.stp hs rfl
         have x5:=x5.stp hs
         have i6:=i6.stp hs rfl
         have o0:=o0.stp hs
         have b478:=b478.stp hs rfl
         obtain ⟨qC,aI,h⟩:=bsome h
         refine EL_do (.yes2 rfl rfl rfl) rfl (D_call (g:=xJ) (vs:=[.int .i64 (1),.int .i64 (8),yJ]) en20 (.cons rfl (.cons rfl (.cons rfl .nil))) (wk20 zJ aI) fun aK qL rM hs hr=>?_)
         have hfr:=hfr.ext hs
         have u4_1_328:=u4_1_328.ext hs
         have t5:=t5.ext hs
         have x5:=x5.ext hs
         have i6:=i6.ext hs
         have o0:=o0.ext hs
         have b478:=b478.ext hs
         subst hr
         refine EL_y (.bool (!qC)) (P_not rfl) rfl rfl rfl rfl ?_
         refine EL_p (.bool (!qC)) (P_pick (b:=false) rfl (pick_f rfl rfl)) rfl ?_
         refine EL_nil ?_
         obtain rfl:=sinj h
         exact hQ _ _ ⟨aK,hfr,v8,k9,t5,u4_1_328,l9,x5,i6,rfl,rfl,b478,x8,o0,a9,y6,rfl⟩
      ·clear hx
       obtain ⟨sD,hfr,vF,bA,nB,u4_1_581,xF,yF,zF,bD,aG,bG,lE,mE,oE,rE,cC⟩:=hR
       rcases csome h with ⟨uC,h⟩ | ⟨uC,h⟩
       ·refine E_cond_true (Eq.trans (show ev _ _ = .bool (r8) from cC) (congrArg Value.bool uC)) ?_
        refine E_seq (E_region (EL_do .plain rfl (D_loadO (g:=sD) Tryz.isAgg36 Tryz.sizeOf36 bA nB fun bK cK=>?_)))
        refine EL_mv bD rfl ?_
        refine EL_do .plain rfl (D_storeOc (g:=sD) (v:=bK) Tryz.sizeOf36 bA nB rfl cK fun sM tM hs b584 cb=>?_)
        clear cb
        have hfr:=hfr.stp hs
        refine EL_at (.int .i64 (u3)) rfl rfl ?_
        refine EL_at (.int .i64 (2)) rfl rfl ?_
        refine EL_nil (thn_n (E_ret (thn_r ?_)))
        refine blk_r ?_
        refine thn_r ?_
        refine thn_r ?_
        refine blk_r ?_
        refine thn_r ?_
        obtain rfl:=sinj h
        obtain ⟨ad585,cv585,hp585,bI,cr585⟩:=ob_read Tryz.isAgg36 Tryz.sizeOf36 b584
        exact endm_ctt rfl rfl ((show _=p1 from bA).trans hp585) bI (show _=.int .i64 (u3) from rfl) (show _=.int .i64 (2) from rfl) ⟨_,hfr,_,_,_,rfl,cr585,rfl,rfl⟩
       ·refine E_cond_false (Eq.trans (show ev _ _ = .bool (r8) from cC) (congrArg Value.bool uC)) ?_
        exact E_skip (thn_n (xH (m7) _ _ ⟨sD,hfr,vF,bA,nB,u4_1_581,xF,yF,zF,bD,aG,bG,lE,mE,oE,rE⟩ h))
     ·rintro z9 rL uM ⟨cG, hfr, eG, iA, n8, u4_1_586, gG, oB, tB, hG, cD, vB, uE, d9, vE, xE⟩ h
      refine E_seq (L_loadO0 (x:=.tmp 9) Tryz.isAgg42 Tryz.sizeOf42 vB fun vC iG dI=>?_)
      have jG:RV cG.m _ (⟨l5⟩:TieTieGroup) (.agg (setCh [[.int .i64 0,.int .i64 0,.int .i64 0,.int .i64 0]] [(0,vC)]).flatten.toArray):=RV_build rfl (rep_last (RV.cells iG))
      generalize iI:(Value.agg (setCh [[.int .i64 0,.int .i64 0,.int .i64 0,.int .i64 0]] [(0,vC)]).flatten.toArray)=kG at jG
      obtain ⟨rA,jI,h⟩:=bsome h
      refine L_loadO (x:=.tmp 65) part_TieGroup_3.1 Tryz.isAgg3 Tryz.sizeOf3 vB fun vM dK kI=>?_
      obtain rfl:=RV_int.1 dK
      obtain ⟨iB,lI,h⟩:=bsome h
      refine E_drawL (g:=cG) (n:=7) [(3,(fun v g w=>RV g.m w rA v)),(6,(fun v g w=>RV g.m w iB v))] [0,1,2,3,4,5,6] rfl mixed (by kernel_rfl) (⟨fun _=>up_rv,fun _=>up_rv,trivial⟩) ?_
      refine L_p k8 rfl rfl (P_move gG) ?_
      refine L_ld (c:=vC) rfl rfl .plain (fun _ _ h=>⟨h.ch,fun b hb _=>h.below.block b hb⟩) dI cD ?_
      refine L_p kG rfl rfl (iI ▸ P_build (vs:=[(0,vC)]) [[.int .i64 0,.int .i64 0,.int .i64 0,.int .i64 0]] lay_74 rfl rfl (.cons rfl .nil) ⟨⟨_,rfl,cells_size iG⟩,trivial⟩) ?_
      refine L_do (φ:=fun v g w=>RV g.m w rA v) rfl rfl .plain (fun g w hd=>D_call (g:=g) (vs:=[kG]) en22 (.cons rfl .nil) (wk22 (jG.ext hd.1) jI) fun g' w' v hs hr=>⟨g',hs,hr⟩) (fun tD hv=>?_)
      obtain ⟨_,_,_,rq589⟩:=hv
      refine L_p (fPtr m8 3) rfl rfl (P_fieldAddr at_42_3 cD (OB.ptr vB)) ?_
      refine L_ld (c:=.int .i64 ((l5).Times)) rfl rfl .plain (fun _ _ h=>⟨h.ch,fun b hb _=>h.below.block b hb⟩) kI rfl ?_
      refine L_do (φ:=fun v g w=>RV g.m w iB v) rfl rfl .plain (fun g w hd=>D_call (g:=g) (vs:=[tD,.int .i64 ((l5).Times)]) en21 (.cons rfl (.cons rfl .nil)) (wk21 (word (A:=fun g w=>RV g.m w rA tD) 3 rfl rfl (deps_of hd)) lI) fun g' w' v hs hr=>⟨g',hs,hr⟩) (fun lK hv=>?_)
      obtain ⟨_,_,_,rq593⟩:=hv
      refine L_nil fun mK xM hall=>?_
      have hs:=hall.1
      have hfr:=hfr.ext hs
      have u4_1_586:=u4_1_586.ext hs
      have n8:=n8.ext hs
      have oB:=oB.ext hs
      have tB:=tB.ext hs
      have d9:=d9.ext hs
      have bN:=(word_all (A:=fun g w=>RV g.m w rA tD) 3 rfl hall)
      have nK:=(word_all (A:=fun g w=>RV g.m w iB lK) 6 rfl hall)
      clear hs hall
      obtain ⟨yA,mI,h⟩:=bsome h
      refine EL_do .plain rfl (D_append (g:=mK) (i:=1007) Tryz.underlying27 info_3 rfl rfl tB oB rfl nK mI fun uD cN vD hs o611 lG _=>?_)
      have hfr:=hfr.stp hs
      have u4_1_586:=u4_1_586.stp hs rfl
      have n8:=n8.stp hs rfl
      have d9:=d9.stp hs
      refine EL_at vD rfl rfl ?_
      refine EL_nil (thn_n (E_seq (E_region (EL_mw vD rfl rfl ?_))))
      refine EL_p (.int .i64 ((yA).length:Int)) (P_len Tryz.underlying27 rfl lG) rfl ?_
      refine EL_in (.bool ((decide (((yA).length:Int) > (96:Int))))) rfl rfl rfl rfl ?_
      refine EL_nil (thn_n ?_)
      rcases csome h with ⟨aD,h⟩ | ⟨aD,h⟩
      ·refine E_ct aD rfl ?_
       refine E_seq (E_region (EL_do .plain rfl (D_loadO (g:=uD) Tryz.isAgg36 Tryz.sizeOf36 iA n8 fun oK pK=>?_)))
       refine EL_mv hG rfl ?_
       refine EL_do .plain rfl (D_storeOc (g:=uD) (v:=oK) Tryz.sizeOf36 iA n8 rfl pK fun dN eN hs b615 cb=>?_)
       clear cb
       have hfr:=hfr.stp hs
       refine EL_at (.int .i64 (u3)) rfl rfl ?_
       refine EL_at (.int .i64 (8)) rfl rfl ?_
       refine EL_nil (thn_n (E_ret (blk_r ?_)))
       refine thn_r ?_
       refine thn_r ?_
       refine blk_r ?_
       refine thn_r ?_
       obtain rfl:=sinj h
       obtain ⟨ad616,cv616,hp616,nI,cr616⟩:=ob_read Tryz.isAgg36 Tryz.sizeOf36 b615
       exact endm_ctt rfl rfl ((show _=p1 from iA).trans hp616) nI (show _=.int .i64 (u3) from rfl) (show _=.int .i64 (8) from rfl) ⟨_,hfr,_,_,_,rfl,cr616,rfl,rfl⟩
      ·refine E_cf aD rfl ?_
       exact E_skip (blk_n (thn_n (uH (z9,yA) _ _ ⟨uD,(vD),hfr,eG,iA,n8,u4_1_586,rfl,lG,o611,uE,d9,vE,xE⟩ h)))
    ·rintro ⟨aB, dB⟩ tL gN ⟨qK, mG, hfr, sG, xG, yG, u4_1_617, zG, aH, cH, yE, zE, cF, dF⟩ h
     refine E_region (EL_in (.int .i64 ((w64 (u3 + (1:Int))))) dF rfl rfl rfl ?_)
     refine EL_mw (.int .i64 ((w64 (u3 + (1:Int))))) rfl rfl ?_
     exact EL_nil (thn_n (tH (aB,dB,(w64 (u3 + (1:Int)))) _ _ ⟨qK,(mG),hfr,sG,xG,yG,u4_1_617,zG,aH,cH,yE,zE,cF,rfl⟩ h))
   ·refine E_cf rC rfl ?_
    refine E_exit ?_
    refine thn_e ?_
    refine thn_e ?_
    refine blk_hit ?_
    exact thn_n (sH (m7,g8) _ _ ⟨lD,(k8),hfr,v8,k9,t5,u4_1_328,l9,x5,i6⟩ h)
  ·rintro ⟨eF, y9⟩ uL iN ⟨dH, yB, hfr, gH, eD, iH, u4_1_618, jH, zB, kH⟩ h
   refine E_seq (E_region (EL_mv gH rfl ?_))
   refine EL_mv jH rfl ?_
   have lH:RV dH.m _ (⟨x0,y9⟩:TieHarness) (.agg (setCh [[.int .i64 0],[.slice none 0 0]] [(0,.int .i64 (x0)),(1,yB)]).flatten.toArray):=RV_build rfl (rep_pair (rfl) (rep_last (RV.cells zB)))
   generalize iE:(Value.agg (setCh [[.int .i64 0],[.slice none 0 0]] [(0,.int .i64 (x0)),(1,yB)]).flatten.toArray)=mH at lH
   refine EL_p mH (iE ▸ P_build (vs:=[(0,.int .i64 (x0)),(1,yB)]) [[.int .i64 0],[.slice none 0 0]] lay_36 rfl rfl (.cons rfl (.cons rfl .nil)) ⟨⟨_,rfl,rfl⟩,⟨⟨_,rfl,cells_size zB⟩,trivial⟩⟩) rfl ?_
   refine EL_do .plain rfl (D_storeOc (g:=dH) (v:=mH) Tryz.sizeOf36 eD iH rfl lH fun sK tK hs b620 cb=>?_)
   obtain ⟨uK,vK,xD,_,_⟩:=RV_list zB
   have lL:OSF 2004 1007 1 sK tK 3 36 (y9:List Int) p1:=cb.osfv (by rw [← iE,xD]; rfl) (kH.stp hs rfl)
   clear cb
   have hfr:=hfr.stp hs
   refine EL_at (.int .i64 (0)) rfl rfl ?_
   refine EL_at (.int .i64 (0)) rfl rfl ?_
   refine EL_nil (thn_n (E_ret ?_))
   obtain rfl:=sinj h
   obtain ⟨ad621,cv621,hp621,pI,cr621⟩:=ob_read Tryz.isAgg36 Tryz.sizeOf36 b620
   exact endm_ctt rfl rfl ((show _=p1 from eD).trans hp621) pI (show _=.int .i64 (0) from rfl) (show _=.int .i64 (0) from rfl) ⟨_,hfr,_,_,_,rfl,cr621,rfl,rfl⟩
def f17 :Option (Bool):=
 (f6 ((4:Int)) (([(⟨0,(3:Int),(2:Int),(1:Int)⟩:TieGroup)]:List TieGroup))).bind fun y4=>
 (f12 ((y4.1).Warps)).bind fun d9=>
 (f7 ((⟨(4:Int),d9⟩:TieHarness)) ((⟨(4:Int),([(1:Int),(6:Int)]:List Int)⟩:Design))).bind fun o0=>
 Option.bind (α:=Bool) (
  bif (y4.2.2 == (0 : Int)) then
   bif (o0.2 == (0 : Int)) then
    (f16 ((y4.1).Warps) (([(0:Int),(1:Int),(2:Int),(3:Int),(2:Int),(1:Int)]:List Int))).bind fun g8=>
    bif g8 then
     bif (((o0.1).length : Int) == (2 : Int)) then
      (idx (o0.1) (0:Int)).bind fun m7=>
      bif ((m7).b == ((⟨[120, 46, 46, 46, 46, 46]⟩ : Str)).b) then
       (idx (o0.1) (1:Int)).bind fun l8=>
       some (((l8).b == ((⟨[46,120,120,46,120,120]⟩:Str)).b))
      else
       some (false)
     else
      some (false)
    else
     some (false)
   else
    some (false)
  else
   some (false)
  ) fun i7=>
 some (i7)
theorem en17:Enters Tryz.prog 17:=enters_of Tryz.func17 (by kernel_rfl) rfl
theorem wk17 {gI:Gh} {wI:World}   {r:Bool} (h:f17 =some r):Fn Tryz.prog 17 #[] gI wI (fun _ _ v=>v=.bool (r)):=by
 unfold f17 at h
 refine fn_of_E Tryz.func17 rfl (Nat.le_of_ble_eq_true rfl) fun g0 hm hfr=>?_
 show E _ 52 none _ _ _ _ _
 refine E_seq (E_region (EL_at (.bool false) rfl rfl ?_))
 refine EL_nil (thn_n (E_seq (E_region ?_)))
 have r1:RV g0.m wI (⟨0,(3:Int),(2:Int),(1:Int)⟩:TieGroup) (.agg (setCh [[.int .i64 0],[.int .i64 0],[.int .i64 0],[.int .i64 0]] [(1,.int .i64 (3)),(2,.int .i64 (2)),(3,.int .i64 (1))]).flatten.toArray):=RV_build rfl (rep_pair (rep_int) (rep_pair (rfl) (rep_pair (rfl) (rep_last (rfl)))))
 generalize hv1:(Value.agg (setCh [[.int .i64 0],[.int .i64 0],[.int .i64 0],[.int .i64 0]] [(1,.int .i64 (3)),(2,.int .i64 (2)),(3,.int .i64 (1))]).flatten.toArray)=v1 at r1
 refine EL_p v1 (hv1 ▸ P_build (vs:=[(1,.int .i64 (3)),(2,.int .i64 (2)),(3,.int .i64 (1))]) [[.int .i64 0],[.int .i64 0],[.int .i64 0],[.int .i64 0]] lay_42 rfl rfl (.cons rfl (.cons rfl (.cons rfl .nil))) ⟨⟨_,rfl,rfl⟩,⟨⟨_,rfl,rfl⟩,⟨⟨_,rfl,rfl⟩,trivial⟩⟩⟩) rfl ?_
 refine EL_do .plain rfl (D_buildSlice (g:=g0) 3008 (xs:=([(⟨0,(3:Int),(2:Int),(1:Int)⟩:TieGroup)]:List TieGroup)) (vs:=[v1]) Tryz.underlying43 Tryz.sizeOf42 Tryz.zeroValue42 rfl rfl (.cons rfl .nil) (RVs.cons r1 RVs.nil) rfl rfl fun g2 w2 v2 hs o2 r2 hxt hfl=>?_)
 have hfr:=hfr.stp hs
 obtain ⟨y4,nB,h⟩:=bsome h
 refine EL_do .plain rfl (D_call (g:=g2) (vs:=[.int .i64 (4),v2]) en6 (.cons rfl (.cons rfl .nil)) (wk6 r2 nB) fun g3 w3_ v3 hs hr=>?_)
 have hfr:=hfr.ext hs
 obtain ⟨m8,uC,vC,rfl,n8,rfl,rfl⟩:=hr
 refine EL_mw (.tuple #[m8,.int .i64 (y4.2.1),.int .i64 (y4.2.2)]) rfl rfl ?_
 refine EL_p m8 (P_extract rfl rfl) rfl ?_
 refine EL_p (.int .i64 (y4.2.1)) (P_extract rfl rfl) rfl ?_
 refine EL_p (.int .i64 (y4.2.2)) (P_extract rfl rfl) rfl ?_
 refine EL_do .plain rfl (D_allocOc (g:=g3) 2001 (⟨0,[]⟩:TieHarness) Tryz.zeroValue36 (fun m w=>⟨_,(rep_two rep_int rep_nil),rfl⟩) fun g5 w5 p5 hs b5 cb=>?_)
 have hfr:=hfr.stp hs
 have n8:=n8.stp hs
 have aD:OSF 2001 60101 1 g5 w5 3 36 ([]:List Int) p5:=cb.osf (by rfl)
 clear cb
 refine EL_do .plain rfl (D_storeOc (g:=g5) (v:=m8) Tryz.sizeOf36 rfl b5 rfl n8 fun g6 w6 hs b6 cb=>?_)
 clear cb
 have hfr:=hfr.stp hs
 refine EL_at (.int .i64 (y4.2.1)) rfl rfl ?_
 refine EL_at (.int .i64 (y4.2.2)) rfl rfl ?_
 refine EL_nil (thn_n (E_seq (E_region (EL_p (fPtr p5 1) (P_fieldAddr at_36_1 rfl (OB.ptr b6)) rfl ?_))))
 refine EL_do .plain rfl (D_loadF (g:=g6) part_TieHarness_1.1 Tryz.isAgg27 Tryz.sizeOf27 rfl b6 fun v8 r8=>?_)
 obtain ⟨d9,aB,h⟩:=bsome h
 refine EL_do .plain rfl (D_call (g:=g6) (vs:=[v8]) en12 (.cons rfl .nil) (wk12 r8 aB) fun g9 w9_ v9 hs hr=>?_)
 have hfr:=hfr.ext hs
 have b6:=b6.ext hs
 have r9:=hr
 have x8:RV g9.m _ (⟨(4:Int),d9⟩:TieHarness) (.agg (setCh [[.int .i64 0],[.slice none 0 0]] [(0,.int .i64 (4)),(1,v9)]).flatten.toArray):=RV_build rfl (rep_pair (rfl) (rep_last (RV.cells r9)))
 generalize dB:(Value.agg (setCh [[.int .i64 0],[.slice none 0 0]] [(0,.int .i64 (4)),(1,v9)]).flatten.toArray)=z9 at x8
 refine EL_p z9 (dB ▸ P_build (vs:=[(0,.int .i64 (4)),(1,v9)]) [[.int .i64 0],[.slice none 0 0]] lay_36 rfl rfl (.cons rfl (.cons rfl .nil)) ⟨⟨_,rfl,rfl⟩,⟨⟨_,rfl,cells_size r9⟩,trivial⟩⟩) rfl ?_
 refine EL_do .plain rfl (D_buildSlice (g:=g9) 3018 (xs:=([(1:Int),(6:Int)]:List Int)) (vs:=[.int .i64 (1),.int .i64 (6)]) Tryz.underlying27 Tryz.sizeOf3 Tryz.zeroValue3 rfl rfl (.cons rfl (.cons rfl .nil)) (RVs.cons (RV_int.2 rfl) (RVs.cons (RV_int.2 rfl) RVs.nil)) rfl rfl fun bA gD k9 hs o12 iA hxt hfl=>?_)
 have hfr:=hfr.stp hs
 have b6:=b6.stp hs rfl
 have x8:=x8.stp hs
 have rA:RV bA.m _ (⟨(4:Int),([(1:Int),(6:Int)]:List Int)⟩:Design) (.agg (setCh [[.int .i64 0],[.slice none 0 0]] [(0,.int .i64 (4)),(1,k9)]).flatten.toArray):=RV_build rfl (rep_pair (rfl) (rep_last (RV.cells iA)))
 generalize iB:(Value.agg (setCh [[.int .i64 0],[.slice none 0 0]] [(0,.int .i64 (4)),(1,k9)]).flatten.toArray)=yA at rA
 refine EL_p yA (iB ▸ P_build (vs:=[(0,.int .i64 (4)),(1,k9)]) [[.int .i64 0],[.slice none 0 0]] lay_29 rfl rfl (.cons rfl (.cons rfl .nil)) ⟨⟨_,rfl,rfl⟩,⟨⟨_,rfl,cells_size iA⟩,trivial⟩⟩) rfl ?_
 obtain ⟨o0,lB,h⟩:=bsome h
 refine EL_do .plain rfl (D_call (g:=bA) (vs:=[z9,yA]) en7 (.cons rfl (.cons rfl .nil)) (wk7 x8 rA lB) fun a9 bD iD hs hr=>?_)
 have hfr:=hfr.ext hs
 have b6:=b6.ext hs
 obtain ⟨l5,rC,rfl,u3,rfl⟩:=hr
 refine EL_mw (.tuple #[l5,.int .i64 (o0.2)]) rfl rfl ?_
 refine EL_p l5 (P_extract rfl rfl) rfl ?_
 refine EL_p (.int .i64 (o0.2)) (P_extract rfl rfl) rfl ?_
 refine EL_at l5 rfl rfl ?_
 refine EL_at (.int .i64 (o0.2)) rfl rfl ?_
 refine EL_nil (thn_n ?_)
 obtain ⟨i7,hx,h⟩:=bsome h
 refine E_join (fun e w=>∃ (g:Gh) ,Fr gI wI g w∧e 0=.bool (i7)) (fun Q' hQ=>?_) (fun cD jD hR=>?_)
 ·replace h := hx
  clear hx
  refine E_region (EL_mw (.int .i64 (y4.2.2)) rfl rfl ?_)
  refine EL_in (.bool ((y4.2.2 == (0:Int)))) rfl rfl rfl rfl ?_
  refine EL_mw (.bool ((y4.2.2 == (0:Int)))) rfl rfl ?_
  rcases csome h with ⟨y6,h⟩ | ⟨y6,h⟩
  ·refine EL_y (.int .i64 (o0.2)) (P_move rfl) rfl rfl y6 rfl ?_
   refine EL_y (.bool ((o0.2 == (0:Int)))) (P_int rfl rfl rfl) rfl rfl y6 rfl ?_
   refine EL_p (.bool ((o0.2 == (0:Int)))) (P_pick (b:=(y4.2.2 == (0:Int))) rfl (pick_t y6 rfl)) rfl ?_
   refine EL_mw (.bool ((o0.2 == (0:Int)))) rfl rfl ?_
   rcases csome h with ⟨t5,h⟩ | ⟨t5,h⟩
   ·refine EL_y (fPtr p5 1) (P_fieldAddr at_36_1 rfl (OB.ptr b6)) rfl rfl t5 rfl ?_
    refine EL_do (.yes2 rfl rfl t5) rfl (D_loadF (g:=a9) part_TieHarness_1.1 Tryz.isAgg27 Tryz.sizeOf27 rfl b6 fun oB l9=>?_)
    refine EL_do (.yes2 rfl rfl t5) rfl (D_buildSlice (g:=a9) 3032 (xs:=([(0:Int),(1:Int),(2:Int),(3:Int),(2:Int),(1:Int)]:List Int)) (vs:=[.int .i64 (0),.int .i64 (1),.int .i64 (2),.int .i64 (3),.int .i64 (2),.int .i64 (1)]) Tryz.underlying27 Tryz.sizeOf3 Tryz.zeroValue3 rfl rfl (.cons rfl (.cons rfl (.cons rfl (.cons rfl (.cons rfl (.cons rfl .nil)))))) (RVs.cons (RV_int.2 rfl) (RVs.cons (RV_int.2 rfl) (RVs.cons (RV_int.2 rfl) (RVs.cons (RV_int.2 rfl) (RVs.cons (RV_int.2 rfl) (RVs.cons (RV_int.2 rfl) RVs.nil)))))) rfl rfl fun tB lD vB hs o36 yB hxt hfl=>?_)
    have hfr:=hfr.stp hs
    have u3:=u3.stp hs
    have l9:=l9.stp hs
    obtain ⟨g8,mB,h⟩:=bsome h
    refine EL_do (.yes2 rfl rfl t5) rfl (D_call (g:=tB) (vs:=[oB,vB]) en16 (.cons rfl (.cons rfl .nil)) (wk16 l9 yB mB) fun k8 eD nD hs hr=>?_)
    have hfr:=hfr.ext hs
    have u3:=u3.ext hs
    subst hr
    refine EL_p (.bool (g8)) (P_pick (b:=(o0.2 == (0:Int))) rfl (pick_t t5 rfl)) rfl ?_
    refine EL_mw (.bool (g8)) rfl rfl ?_
    rcases csome h with ⟨x5,h⟩ | ⟨x5,h⟩
    ·refine EL_y l5 (P_move rfl) rfl rfl x5 rfl ?_
     refine EL_y (.int .i64 ((o0.1).length:Int)) (P_len Tryz.underlying44 rfl u3) rfl rfl x5 rfl ?_
     refine EL_y (.bool ((((o0.1).length:Int) == (2:Int)))) (P_int rfl rfl rfl) rfl rfl x5 rfl ?_
     refine EL_p (.bool ((((o0.1).length:Int) == (2:Int)))) (P_pick (b:=g8) rfl (pick_t x5 rfl)) rfl ?_
     refine EL_mw (.bool ((((o0.1).length:Int) == (2:Int)))) rfl rfl ?_
     rcases csome h with ⟨i6,h⟩ | ⟨i6,h⟩
     ·refine EL_y l5 (P_move rfl) rfl rfl i6 rfl ?_
      obtain ⟨m7,n9,h⟩:=bsome h
      refine EL_y (ePtr l5 (0:Int) 1) (P_indexAddr (α:=Str) Tryz.underlying44 Tryz.sizeOf9 rfl u3 rfl n9) rfl rfl i6 rfl ?_
      have zB:=PT_idx u3 n9
      refine EL_do (.yes2 rfl rfl i6) rfl (D_load (g:=k8) Tryz.isAgg9 Tryz.sizeOf9 rfl zB fun oD cC=>?_)
      obtain rfl:=RV_str.1 cC
      refine EL_y (.bool (((m7).b == ((⟨[120,46,46,46,46,46]⟩:Str)).b))) (P_str rfl rfl rfl) rfl rfl i6 rfl ?_
      refine EL_p (.bool (((m7).b == ((⟨[120,46,46,46,46,46]⟩:Str)).b))) (P_pick (b:=(((o0.1).length:Int) == (2:Int))) rfl (pick_t i6 rfl)) rfl ?_
      refine EL_mw (.bool (((m7).b == ((⟨[120,46,46,46,46,46]⟩:Str)).b))) rfl rfl ?_
      rcases csome h with ⟨x6,h⟩ | ⟨x6,h⟩
      ·refine EL_y l5 (P_move rfl) rfl rfl x6 rfl ?_
       obtain ⟨l8,u9,h⟩:=bsome h
       refine EL_y (ePtr l5 (1:Int) 1) (P_indexAddr (α:=Str) Tryz.underlying44 Tryz.sizeOf9 rfl u3 rfl u9) rfl rfl x6 rfl ?_
       have mC:=PT_idx u3 u9
       refine EL_do (.yes2 rfl rfl x6) rfl (D_load (g:=k8) Tryz.isAgg9 Tryz.sizeOf9 rfl mC fun sD qC=>?_)
       obtain rfl:=RV_str.1 qC
       refine EL_y (.bool (((l8).b == ((⟨[46,120,120,46,120,120]⟩:Str)).b))) (P_str rfl rfl rfl) rfl rfl x6 rfl ?_
       refine EL_p (.bool (((l8).b == ((⟨[46,120,120,46,120,120]⟩:Str)).b))) (P_pick (b:=((m7).b == ((⟨[120,46,46,46,46,46]⟩:Str)).b)) rfl (pick_t x6 rfl)) rfl ?_
       refine EL_at (.bool (((l8).b == ((⟨[46,120,120,46,120,120]⟩:Str)).b))) rfl rfl ?_
       refine EL_nil ?_
       obtain rfl:=sinj h
       exact hQ _ _ ⟨k8,hfr,rfl⟩
      ·refine EL_s rfl rfl x6 rfl rfl ?_
       iterate 3 refine EL_s rfl rfl x6 rfl rfl ?_
       refine EL_p (.bool false) (P_pick (b:=((m7).b == ((⟨[120,46,46,46,46,46]⟩:Str)).b)) rfl (pick_f x6 rfl)) rfl ?_
       refine EL_at (.bool false) rfl rfl ?_
       refine EL_nil ?_
       obtain rfl:=sinj h
       exact hQ _ _ ⟨k8,hfr,rfl⟩
     ·refine EL_s rfl rfl i6 rfl rfl ?_
      iterate 3 refine EL_s rfl rfl i6 rfl rfl ?_
      refine EL_p (.bool false) (P_pick (b:=(((o0.1).length:Int) == (2:Int))) rfl (pick_f i6 rfl)) rfl ?_
      refine EL_dead 6 rfl ?_
      refine EL_at (.bool false) rfl rfl ?_
      refine EL_nil ?_
      obtain rfl:=sinj h
      exact hQ _ _ ⟨k8,hfr,rfl⟩
    ·refine EL_s rfl rfl x5 rfl rfl ?_
     refine EL_s rfl rfl x5 rfl rfl ?_
     refine EL_s rfl rfl x5 rfl rfl ?_
     refine EL_p (.bool false) (P_pick (b:=g8) rfl (pick_f x5 rfl)) rfl ?_
     refine EL_dead 12 rfl ?_
     refine EL_at (.bool false) rfl rfl ?_
     refine EL_nil ?_
     obtain rfl:=sinj h
     exact hQ _ _ ⟨k8,hfr,rfl⟩
   ·refine EL_s rfl rfl t5 rfl rfl ?_
    iterate 3 refine EL_s rfl rfl t5 rfl rfl ?_
    refine EL_p (.bool false) (P_pick (b:=(o0.2 == (0:Int))) rfl (pick_f t5 rfl)) rfl ?_
    refine EL_dead 17 rfl ?_
    refine EL_at (.bool false) rfl rfl ?_
    refine EL_nil ?_
    obtain rfl:=sinj h
    exact hQ _ _ ⟨a9,hfr,rfl⟩
  ·refine EL_s rfl rfl y6 rfl rfl ?_
   refine EL_s rfl rfl y6 rfl rfl ?_
   refine EL_p (.bool false) (P_pick (b:=(y4.2.2 == (0:Int))) rfl (pick_f y6 rfl)) rfl ?_
   refine EL_dead 23 rfl ?_
   refine EL_at (.bool false) rfl rfl ?_
   refine EL_nil ?_
   obtain rfl:=sinj h
   exact hQ _ _ ⟨a9,hfr,rfl⟩
 ·clear hx
  obtain ⟨tD,hfr,y9⟩:=hR
  refine E_ret ?_
  obtain rfl:=sinj h
  exact end1 rfl rfl (show _=.bool (i7) from y9) ⟨_,hfr,rfl⟩
def f27 (x0:BoxLoom):Option (BoxBoxLoom × Int):=
 jn (σ:=BoxBoxLoom) (fun o0=>
  Option.bind (α:=(List ((Vector Int 2) × Bool))) (
   lp (σ:=(List ((Vector Int 2) × Bool)) × Int) (fun lE (z9,u3)=>
    bif (decide (u3 < (((x0).Shuttles).length : Int))) then
     Option.bind (α:=(List ((Vector Int 2) × Bool))) (
      (idx ((x0).Shuttles) u3).bind fun m7=>
      some ((mset z9 ((⟨List.toArray [(m7).Side,(m7).Box],rfl⟩:Vector Int 2)) true))
      ) fun k9=>
     lE (k9,(w64 (u3 + (1:Int))))
    else
     some (z9)
    ) big (([]:List ((Vector Int 2) × Bool)),(0:Int))
   ) fun l9=>
  jn (σ:=BoxBoxLoom) (fun mE=>
   some ((⟨x0⟩:BoxBoxLoom),(0:Int))
   ) fun oE=>
  bif (decide (((l9).length : Int) < (((x0).Shuttles).length : Int))) then
   some ((⟨x0⟩:BoxBoxLoom),(6:Int))
  else
   oE (o0)
  ) fun k54=>
 Option.bind (α:=Bool) (
  bif ((((x0).Boxes).length : Int) != (2 : Int)) then
   some (((((x0).Boxes).length:Int) != (2:Int)))
  else
   some (((((x0).At).length:Int) != (2:Int)))
  ) fun l8=>
 bif l8 then
  some ((⟨x0⟩:BoxBoxLoom),(4:Int))
 else
  (f54 ((⟨x0⟩:BoxBoxLoom))).bind fun sD=>
  bif (!sD) then
   some ((⟨x0⟩:BoxBoxLoom),(3:Int))
  else
   bif (decide ((((x0).Shuttles).length : Int) > (6 : Int))) then
    some ((⟨x0⟩:BoxBoxLoom),(5:Int))
   else
    Option.bind (α:=Bool) (
     bif ((((x0).Shuttles).length : Int) == (0 : Int)) then
      some (((((x0).Shuttles).length:Int) == (0:Int)))
     else
      (f55 ((x0).Shuttles) ((fun a0=>f52 a0 ((⟨x0⟩:BoxBoxLoom))))).bind fun rE=>
      some (rE)
     ) fun m8=>
    bif m8 then
     some ((⟨x0⟩:BoxBoxLoom),(2:Int))
    else
     k54 ((⟨⟨[],[],[]⟩⟩:BoxBoxLoom))
theorem en27:Enters Tryz.prog 27:=enters_of Tryz.func27 (by kernel_rfl) rfl
theorem wk27 {gI:Gh} {wI:World} {x0:BoxLoom} {up0:Value} (rp0:RV gI.m wI x0 up0) {r:BoxBoxLoom × Int} (h:f27 x0=some r):Fn Tryz.prog 27 #[up0] gI wI (fun m w v=>∃ y0 y1,v=.tuple #[y0,y1]∧RV m w (r.1) y0∧y1=.int .i64 (r.2)):=by
 unfold f27 at h
 refine fn_of_E Tryz.func27 rfl (Nat.le_of_ble_eq_true rfl) fun g0 hm hfr=>?_
 have rp0:RV g0.m wI x0 up0:=hm ▸ rp0
 show E _ 66 none _ _ _ _ _
 refine E_seq (E_region (EL_do .plain rfl (D_box (g:=g0) rfl rp0 fun g1 w1 p1 hs q1=>?_)))
 have hfr:=hfr.ext hs
 refine EL_do .plain rfl (D_allocOc (g:=g1) 2002 (⟨⟨[],[],[]⟩⟩:BoxBoxLoom) Tryz.zeroValue83 (fun m w=>⟨_,(rep_two rep_nil (rep_two rep_nil rep_nil)),rfl⟩) fun g2 w2 p2 hs b2 cb=>?_)
 have hfr:=hfr.stp hs
 have q1:=q1.stp hs
 have n8:OSF 2002 60200 0 g2 w2 3 83 ([]:List Int) p2:=cb.osf (by rfl)
 have r8:OSF 2002 60201 1 g2 w2 3 83 ([]:List Int) p2:=cb.osf (by rfl)
 have v8:OSF 2002 60202 2 g2 w2 65 83 ([]:List BoxShuttle) p2:=cb.osf (by rfl)
 clear cb
 refine EL_at (.int .i64 (0)) rfl rfl ?_
 refine EL_nil (thn_n (E_seq (E_region (EL_do .plain rfl (D_load (g:=g2) Tryz.isAgg33 Tryz.sizeOf33 rfl q1 fun v3 r3=>?_)))))
 have r4:RV g2.m _ (⟨x0⟩:BoxBoxLoom) (.agg (setCh [[.slice none 0 0,.slice none 0 0,.slice none 0 0]] [(0,v3)]).flatten.toArray):=RV_build rfl (rep_last (RV.cells r3))
 generalize lI:(Value.agg (setCh [[.slice none 0 0,.slice none 0 0,.slice none 0 0]] [(0,v3)]).flatten.toArray)=v4 at r4
 refine EL_p v4 (lI ▸ P_build (vs:=[(0,v3)]) [[.slice none 0 0,.slice none 0 0,.slice none 0 0]] lay_83 rfl rfl (.cons rfl .nil) ⟨⟨_,rfl,cells_size r3⟩,trivial⟩) rfl ?_
 refine EL_do .plain rfl (D_allocOc (g:=g2) 2004 (⟨⟨[],[],[]⟩⟩:BoxBoxLoom) Tryz.zeroValue83 (fun m w=>⟨_,(rep_two rep_nil (rep_two rep_nil rep_nil)),rfl⟩) fun g5 w5 p5 hs b5 cb=>?_)
 have hfr:=hfr.stp hs
 have q1:=q1.stp hs
 have n8:=n8.stp hs rfl
 have r8:=r8.stp hs rfl
 have v8:=v8.stp hs rfl
 have b2:=b2.stp hs rfl
 have r4:=r4.stp hs
 have yJ:OSF 2004 60400 0 g5 w5 3 83 ([]:List Int) p5:=cb.osf (by rfl)
 have zJ:OSF 2004 60401 1 g5 w5 3 83 ([]:List Int) p5:=cb.osf (by rfl)
 have aK:OSF 2004 60402 2 g5 w5 65 83 ([]:List BoxShuttle) p5:=cb.osf (by rfl)
 clear cb
 refine EL_do .plain rfl (D_storeOc (g:=g5) (v:=v4) Tryz.sizeOf83 rfl b5 rfl r4 fun g6 w6 hs b6 cb=>?_)
 clear cb
 have hfr:=hfr.stp hs
 have q1:=q1.stp hs
 have n8:=n8.stp hs rfl
 have r8:=r8.stp hs rfl
 have v8:=v8.stp hs rfl
 have b2:=b2.stp hs rfl
 obtain ⟨gp6,hs,qp6⟩:=OB.pub b6
 have hfr:=hfr.stp hs
 have q1:=q1.stp hs
 have n8:=n8.stp hs rfl
 have r8:=r8.stp hs rfl
 have v8:=v8.stp hs rfl
 have b2:=b2.stp hs rfl
 refine EL_nil (thn_n (E_seq (E_region (EL_p ((.func (.func 52) #[] #[p5])) (P_makeFunc (capf_0_1 (show ev _ _=p5 from rfl))) rfl ?_))))
 refine EL_at ((.func (.func 52) #[] #[p5])) rfl rfl ?_
 refine EL_nil (thn_n (E_joinC h (fun (s:BoxBoxLoom) e w=>∃ (g:Gh) ,Fr gI wI g w∧e 1=p1∧PT g.m w (x0:BoxLoom) p1∧e 2=p2∧OB 2002 g w 83 (s:BoxBoxLoom) p2∧OSF 2002 60200 0 g w 3 83 (((s).BoxLoom).Boxes) p2∧OSF 2002 60201 1 g w 3 83 (((s).BoxLoom).At) p2∧OSF 2002 60202 2 g w 65 83 (((s).BoxLoom).Shuttles) p2∧e 4=p5∧PT g.m w ((⟨x0⟩:BoxBoxLoom):BoxBoxLoom) p5) (fun X54 k54 aH h=>?_) ?_))
 ·refine E_block ?_
  obtain ⟨l8,hx,h⟩:=bsome h
  refine E_join (fun e w=>∃ (g:Gh) ,Fr gI wI g w∧e 1=p1∧PT g.m w (x0:BoxLoom) p1∧e 2=p2∧OB 2002 g w 83 ((⟨⟨[],[],[]⟩⟩:BoxBoxLoom):BoxBoxLoom) p2∧OSF 2002 60200 0 g w 3 83 ((((⟨⟨[],[],[]⟩⟩:BoxBoxLoom)).BoxLoom).Boxes) p2∧OSF 2002 60201 1 g w 3 83 ((((⟨⟨[],[],[]⟩⟩:BoxBoxLoom)).BoxLoom).At) p2∧OSF 2002 60202 2 g w 65 83 ((((⟨⟨[],[],[]⟩⟩:BoxBoxLoom)).BoxLoom).Shuttles) p2∧e 4=p5∧PT g.m w ((⟨x0⟩:BoxBoxLoom):BoxBoxLoom) p5∧e 5=(.func (.func 52) #[] #[p5])∧e 12=.bool (l8)) (fun Q' hQ=>?_) (fun bK iL hR=>?_)
  ·replace h := hx
   clear hx
   refine E_seq (E_region (EL_p (fPtr p1 0) (P_fieldAddr at_33_0 rfl (PT.ptr q1)) rfl ?_))
   have mI:=PT_field (part_BoxLoom_0).1 q1
   refine EL_do .plain rfl (D_load (g:=gp6) Tryz.isAgg27 Tryz.sizeOf27 rfl mI fun jL nI=>?_)
   refine EL_p (.int .i64 (((x0).Boxes).length:Int)) (P_len Tryz.underlying27 rfl nI) rfl ?_
   refine EL_in (.bool (((((x0).Boxes).length:Int) != (2:Int)))) rfl rfl rfl rfl ?_
   refine EL_at (.bool (((((x0).Boxes).length:Int) != (2:Int)))) rfl rfl ?_
   refine EL_nil (thn_n ?_)
   rcases csome h with ⟨cD,h⟩ | ⟨cD,h⟩
   ·refine E_ct cD rfl ?_
    refine E_skip ?_
    obtain rfl:=sinj h
    exact hQ _ _ ⟨gp6,hfr,rfl,q1,rfl,b2,n8,r8,v8,rfl,qp6,rfl,rfl⟩
   ·refine E_cf cD rfl ?_
    refine E_region (EL_p (fPtr p1 1) (P_fieldAddr at_33_1 rfl (PT.ptr q1)) rfl ?_)
    have pI:=PT_field (part_BoxLoom_1).1 q1
    refine EL_do .plain rfl (D_load (g:=gp6) Tryz.isAgg27 Tryz.sizeOf27 rfl pI fun lL qI=>?_)
    refine EL_p (.int .i64 (((x0).At).length:Int)) (P_len Tryz.underlying27 rfl qI) rfl ?_
    refine EL_in (.bool (((((x0).At).length:Int) != (2:Int)))) rfl rfl rfl rfl ?_
    refine EL_at (.bool (((((x0).At).length:Int) != (2:Int)))) rfl rfl ?_
    refine EL_nil ?_
    obtain rfl:=sinj h
    exact hQ _ _ ⟨gp6,hfr,rfl,q1,rfl,b2,n8,r8,v8,rfl,qp6,rfl,rfl⟩
  ·clear hx
   obtain ⟨tD,hfr,n9,t5,g8,i7,u2_0_66,u2_1_66,u2_2_66,a9,x5,iG,vB⟩:=hR
   rcases csome h with ⟨eD,h⟩ | ⟨eD,h⟩
   ·refine E_cond_true (Eq.trans (show ev _ _ = .bool (l8) from vB) (congrArg Value.bool eD)) ?_
    refine E_seq (E_region (EL_do .plain rfl (D_load (g:=tD) Tryz.isAgg83 Tryz.sizeOf83 a9 x5 fun sI tI=>?_)))
    refine EL_do .plain rfl (D_storeOc (g:=tD) (v:=sI) Tryz.sizeOf83 g8 i7 rfl tI fun mL nL hs b69 cb=>?_)
    clear cb
    have hfr:=hfr.stp hs
    refine EL_at (.int .i64 (4)) rfl rfl ?_
    refine EL_nil (thn_n (E_ret (blk_r ?_)))
    refine thn_r ?_
    obtain rfl:=sinj h
    obtain ⟨ad70,cv70,hp70,cH,cr70⟩:=ob_read Tryz.isAgg83 Tryz.sizeOf83 b69
    exact endm_ct rfl rfl ((show _=p2 from g8).trans hp70) cH (show _=.int .i64 (4) from rfl) ⟨_,hfr,_,_,rfl,cr70,rfl⟩
   ·refine E_cond_false (Eq.trans (show ev _ _ = .bool (l8) from vB) (congrArg Value.bool eD)) ?_
    refine E_seq (E_region (EL_do .plain rfl (D_load (g:=tD) Tryz.isAgg83 Tryz.sizeOf83 a9 x5 fun uI vI=>?_)))
    obtain ⟨sD,dH,h⟩:=bsome h
    refine EL_do .plain rfl (D_call (g:=tD) (vs:=[uI]) en54 (.cons rfl .nil) (wk54 vI dH) fun u9 cK oL hs hr=>?_)
    have hfr:=hfr.ext hs
    have t5:=t5.ext hs
    have u2_0_66:=u2_0_66.ext hs
    have u2_1_66:=u2_1_66.ext hs
    have u2_2_66:=u2_2_66.ext hs
    have i7:=i7.ext hs
    have x5:=x5.ext hs
    subst hr
    refine EL_p (.bool (!sD)) (P_not rfl) rfl ?_
    refine EL_at (.bool (!sD)) rfl rfl ?_
    refine EL_nil (thn_n ?_)
    rcases csome h with ⟨gD,h⟩ | ⟨gD,h⟩
    ·refine E_ct gD rfl ?_
     refine E_seq (E_region (EL_do .plain rfl (D_load (g:=u9) Tryz.isAgg83 Tryz.sizeOf83 a9 x5 fun yI zI=>?_)))
     refine EL_do .plain rfl (D_storeOc (g:=u9) (v:=yI) Tryz.sizeOf83 g8 i7 rfl zI fun pL qL hs b76 cb=>?_)
     clear cb
     have hfr:=hfr.stp hs
     refine EL_at (.int .i64 (3)) rfl rfl ?_
     refine EL_nil (thn_n (E_ret (blk_r ?_)))
     refine thn_r ?_
     obtain rfl:=sinj h
     obtain ⟨ad77,cv77,hp77,gH,cr77⟩:=ob_read Tryz.isAgg83 Tryz.sizeOf83 b76
     exact endm_ct rfl rfl ((show _=p2 from g8).trans hp77) gH (show _=.int .i64 (3) from rfl) ⟨_,hfr,_,_,rfl,cr77,rfl⟩
    ·refine E_cf gD rfl ?_
     refine E_seq (E_region (EL_p (fPtr p1 2) (P_fieldAddr at_33_2 n9 (PT.ptr t5)) rfl ?_))
     have eJ:=PT_field (part_BoxLoom_2).1 t5
     refine EL_do .plain rfl (D_load (g:=u9) Tryz.isAgg31 Tryz.sizeOf31 rfl eJ fun rL gJ=>?_)
     refine EL_p (.int .i64 (((x0).Shuttles).length:Int)) (P_len Tryz.underlying31 rfl gJ) rfl ?_
     refine EL_p (.bool ((decide ((((x0).Shuttles).length:Int) > (6:Int))))) (P_int rfl rfl rfl) rfl ?_
     refine EL_p (.bool ((decide ((((x0).Shuttles).length:Int) > (6:Int))))) (P_assign rfl) rfl ?_
     refine EL_nil (thn_n ?_)
     rcases csome h with ⟨iD,h⟩ | ⟨iD,h⟩
     ·refine E_ct iD rfl ?_
      refine E_seq (E_region (EL_do .plain rfl (D_load (g:=u9) Tryz.isAgg83 Tryz.sizeOf83 a9 x5 fun iJ jJ=>?_)))
      refine EL_do .plain rfl (D_storeOc (g:=u9) (v:=iJ) Tryz.sizeOf83 g8 i7 rfl jJ fun tL uL hs b82 cb=>?_)
      clear cb
      have hfr:=hfr.stp hs
      refine EL_at (.int .i64 (5)) rfl rfl ?_
      refine EL_nil (thn_n (E_ret (blk_r ?_)))
      refine thn_r ?_
      obtain rfl:=sinj h
      obtain ⟨ad83,cv83,hp83,iH,cr83⟩:=ob_read Tryz.isAgg83 Tryz.sizeOf83 b82
      exact endm_ct rfl rfl ((show _=p2 from g8).trans hp83) iH (show _=.int .i64 (5) from rfl) ⟨_,hfr,_,_,rfl,cr83,rfl⟩
     ·refine E_cf iD rfl ?_
      obtain ⟨m8,hx,h⟩:=bsome h
      refine E_join (fun e w=>∃ (g:Gh) ,Fr gI wI g w∧e 1=p1∧PT g.m w (x0:BoxLoom) p1∧e 2=p2∧OB 2002 g w 83 ((⟨⟨[],[],[]⟩⟩:BoxBoxLoom):BoxBoxLoom) p2∧OSF 2002 60200 0 g w 3 83 ((((⟨⟨[],[],[]⟩⟩:BoxBoxLoom)).BoxLoom).Boxes) p2∧OSF 2002 60201 1 g w 3 83 ((((⟨⟨[],[],[]⟩⟩:BoxBoxLoom)).BoxLoom).At) p2∧OSF 2002 60202 2 g w 65 83 ((((⟨⟨[],[],[]⟩⟩:BoxBoxLoom)).BoxLoom).Shuttles) p2∧e 4=p5∧PT g.m w ((⟨x0⟩:BoxBoxLoom):BoxBoxLoom) p5∧e 33=.bool (m8)) (fun Q' hQ=>?_) (fun dK vL hR=>?_)
      ·replace h := hx
       clear hx
       refine E_seq (E_region (EL_p (fPtr p1 2) (P_fieldAddr at_33_2 n9 (PT.ptr t5)) rfl ?_))
       have kJ:=PT_field (part_BoxLoom_2).1 t5
       refine EL_do .plain rfl (D_load (g:=u9) Tryz.isAgg31 Tryz.sizeOf31 rfl kJ fun xL lJ=>?_)
       refine EL_p (.int .i64 (((x0).Shuttles).length:Int)) (P_len Tryz.underlying31 rfl lJ) rfl ?_
       refine EL_in (.bool (((((x0).Shuttles).length:Int) == (0:Int)))) rfl rfl rfl rfl ?_
       refine EL_at (.bool (((((x0).Shuttles).length:Int) == (0:Int)))) rfl rfl ?_
       refine EL_nil (thn_n ?_)
       rcases csome h with ⟨jD,h⟩ | ⟨jD,h⟩
       ·refine E_ct jD rfl ?_
        refine E_skip ?_
        obtain rfl:=sinj h
        exact hQ _ _ ⟨u9,hfr,n9,t5,g8,i7,u2_0_66,u2_1_66,u2_2_66,a9,x5,rfl⟩
       ·refine E_cf jD rfl ?_
        refine E_region (EL_p (fPtr p1 2) (P_fieldAddr at_33_2 n9 (PT.ptr t5)) rfl ?_)
        have mJ:=PT_field (part_BoxLoom_2).1 t5
        refine EL_do .plain rfl (D_load (g:=u9) Tryz.isAgg31 Tryz.sizeOf31 rfl mJ fun nJ oJ=>?_)
        refine EL_mv iG rfl ?_
        obtain ⟨rE,jH,h⟩:=bsome h
        refine EL_do .plain rfl (D_call (g:=u9) (vs:=[nJ,(.func (.func 52) #[] #[p5])]) en55 (.cons rfl (.cons rfl .nil)) (wk55 oJ ⟨52,#[],#[p5],rfl,en52,fun g' w' hch a0 b0 r hu0 hr=>by exact Fn.mono (wk52 hu0 (x5.ch hch) hr) fun _ _ _ h=>RV_bool.2 h⟩ jH) fun pJ lK yL hs hr=>?_)
        have hfr:=hfr.ext hs
        have t5:=t5.ext hs
        have u2_0_66:=u2_0_66.ext hs
        have u2_1_66:=u2_1_66.ext hs
        have u2_2_66:=u2_2_66.ext hs
        have i7:=i7.ext hs
        have x5:=x5.ext hs
        subst hr
        refine EL_at (.bool (rE)) rfl rfl ?_
        refine EL_nil ?_
        obtain rfl:=sinj h
        exact hQ _ _ ⟨pJ,hfr,n9,t5,g8,i7,u2_0_66,u2_1_66,u2_2_66,a9,x5,rfl⟩
      ·clear hx
       obtain ⟨uE,hfr,jG,kG,mB,uD,u2_0_98,u2_1_98,u2_2_98,vD,xD,yB⟩:=hR
       rcases csome h with ⟨lD,h⟩ | ⟨lD,h⟩
       ·refine E_cond_true (Eq.trans (show ev _ _ = .bool (m8) from yB) (congrArg Value.bool lD)) ?_
        refine E_seq (E_region (EL_do .plain rfl (D_load (g:=uE) Tryz.isAgg83 Tryz.sizeOf83 vD xD fun kH lH=>?_)))
        refine EL_do .plain rfl (D_storeOc (g:=uE) (v:=kH) Tryz.sizeOf83 mB uD rfl lH fun mK nK hs b101 cb=>?_)
        clear cb
        have hfr:=hfr.stp hs
        refine EL_at (.int .i64 (2)) rfl rfl ?_
        refine EL_nil (thn_n (E_ret (blk_r ?_)))
        refine thn_r ?_
        obtain rfl:=sinj h
        obtain ⟨ad102,cv102,hp102,lG,cr102⟩:=ob_read Tryz.isAgg83 Tryz.sizeOf83 b101
        exact endm_ct rfl rfl ((show _=p2 from mB).trans hp102) lG (show _=.int .i64 (2) from rfl) ⟨_,hfr,_,_,rfl,cr102,rfl⟩
       ·refine E_cond_false (Eq.trans (show ev _ _ = .bool (m8) from yB) (congrArg Value.bool lD)) ?_
        exact E_skip (blk_n (thn_n (aH ((⟨⟨[],[],[]⟩⟩:BoxBoxLoom)) _ _ ⟨uE,hfr,jG,kG,mB,uD,u2_0_98,u2_1_98,u2_2_98,vD,xD⟩ h)))
 ·rintro o0 qJ oK ⟨mH, hfr, zB, x8, vE, bA, u2_0_103, u2_1_103, u2_2_103, xE, iA⟩ h
  refine E_seq (E_region (EL_do .plain rfl (D_makeMap (g:=mH) (encK pl_133) Bool 8043 fun yE pK d9 hs m104=>?_)))
  have hfr:=hfr.stp hs
  have x8:=x8.stp hs
  have u2_0_103:=u2_0_103.stp hs rfl
  have u2_1_103:=u2_1_103.stp hs rfl
  have u2_2_103:=u2_2_103.stp hs rfl
  have bA:=bA.stp hs rfl
  have iA:=iA.stp hs
  refine EL_at d9 rfl rfl ?_
  refine EL_nil (thn_n ?_)
  obtain ⟨l9,hx,h⟩:=bsome h
  refine E_join (fun e w=>∃ (g:Gh) ,Fr gI wI g w∧e 1=p1∧PT g.m w (x0:BoxLoom) p1∧e 2=p2∧OB 2002 g w 83 (o0:BoxBoxLoom) p2∧OSF 2002 60200 0 g w 3 83 (((o0).BoxLoom).Boxes) p2∧OSF 2002 60201 1 g w 3 83 (((o0).BoxLoom).At) p2∧OSF 2002 60202 2 g w 65 83 (((o0).BoxLoom).Shuttles) p2∧e 4=p5∧PT g.m w ((⟨x0⟩:BoxBoxLoom):BoxBoxLoom) p5∧e 6=d9∧MP (encK pl_133) 8043 g w (l9:List ((Vector Int 2) × Bool)) d9) (fun Q' hQ=>?_) (fun rJ qK hR=>?_)
  ·replace h := hx
   clear hx
   refine E_seq (E_region (EL_p (fPtr p1 2) (P_fieldAddr at_33_2 zB (PT.ptr x8)) rfl ?_))
   have nH:=PT_field (part_BoxLoom_2).1 x8
   refine EL_do .plain rfl (D_load (g:=yE) Tryz.isAgg31 Tryz.sizeOf31 rfl nH fun rA zE=>?_)
   refine EL_p (.int .i64 (((x0).Shuttles).length:Int)) (P_len Tryz.underlying31 rfl zE) rfl ?_
   refine EL_mw (.int .i64 (0)) rfl rfl ?_
   refine EL_nil (thn_n (E_block ?_))
   refine E_lp h (fun (s:(List ((Vector Int 2) × Bool)) × Int) e w=>∃ (g:Gh) ,Fr gI wI g w∧e 1=p1∧PT g.m w (x0:BoxLoom) p1∧e 2=p2∧OB 2002 g w 83 (o0:BoxBoxLoom) p2∧OSF 2002 60200 0 g w 3 83 (((o0).BoxLoom).Boxes) p2∧OSF 2002 60201 1 g w 3 83 (((o0).BoxLoom).At) p2∧OSF 2002 60202 2 g w 65 83 (((o0).BoxLoom).Shuttles) p2∧e 4=p5∧PT g.m w ((⟨x0⟩:BoxBoxLoom):BoxBoxLoom) p5∧e 6=d9∧MP (encK pl_133) 8043 g w (s.1:List ((Vector Int 2) × Bool)) d9∧e 45=rA∧RV g.m w ((x0).Shuttles:List BoxShuttle) rA∧e 46=.int .i64 ((((x0).Shuttles).length:Int))∧e 47=.int .i64 (s.2)) ⟨yE,hfr,zB,x8,vE,bA,u2_0_103,u2_1_103,u2_2_103,xE,iA,rfl,m104,rfl,zE,rfl,rfl⟩ (fun X135 lE mG=>?_)
   rintro ⟨z9,u3⟩ sJ sK ⟨nD,hfr,cC,i6,mC,x6,u2_0_136,u2_1_136,u2_2_136,qC,y6,yA,k8,iB,l5,lB,y9⟩ h
   refine E_seq (E_region (EL_p (.bool ((decide (u3 < (((x0).Shuttles).length:Int))))) (P_int y9 lB rfl) rfl ?_))
   refine EL_nil (thn_n (E_seq ?_))
   rcases csome h with ⟨nB,h⟩ | ⟨nB,h⟩
   ·refine E_ct nB rfl ?_
    refine E_skip (thn_n ?_)
    obtain ⟨k9,hx,h⟩:=bsome h
    refine E_join (fun e w=>∃ (g:Gh) ,Fr gI wI g w∧e 1=p1∧PT g.m w (x0:BoxLoom) p1∧e 2=p2∧OB 2002 g w 83 (o0:BoxBoxLoom) p2∧OSF 2002 60200 0 g w 3 83 (((o0).BoxLoom).Boxes) p2∧OSF 2002 60201 1 g w 3 83 (((o0).BoxLoom).At) p2∧OSF 2002 60202 2 g w 65 83 (((o0).BoxLoom).Shuttles) p2∧e 4=p5∧PT g.m w ((⟨x0⟩:BoxBoxLoom):BoxBoxLoom) p5∧e 6=d9∧MP (encK pl_133) 8043 g w (k9:List ((Vector Int 2) × Bool)) d9∧e 45=rA∧RV g.m w ((x0).Shuttles:List BoxShuttle) rA∧e 46=.int .i64 ((((x0).Shuttles).length:Int))∧e 47=.int .i64 (u3)) (fun Q' hQ=>?_) (fun vJ tK hR=>?_)
    ·replace h := hx
     clear hx
     refine E_block ?_
     refine E_seq (E_region ?_)
     obtain ⟨m7,yD,h⟩:=bsome h
     refine EL_p (ePtr rA u3 5) (P_indexAddr (α:=BoxShuttle) Tryz.underlying31 Tryz.sizeOf65 iB l5 y9 yD) rfl ?_
     have oH:=PT_idx l5 yD
     refine EL_do .plain rfl (D_load (g:=nD) Tryz.isAgg65 Tryz.sizeOf65 rfl oH fun pH oD=>?_)
     refine EL_do .plain rfl (D_allocOc (g:=nD) 2008 (⟨0,0,0,⟨0,0⟩⟩:BoxShuttle) Tryz.zeroValue65 (fun m w=>⟨_,(rep_two rep_int (rep_two rep_int (rep_two rep_int (rep_two rep_int rep_int)))),rfl⟩) fun qH uK cF hs b152 cb=>?_)
     have hfr:=hfr.stp hs
     have i6:=i6.stp hs
     have u2_0_136:=u2_0_136.stp hs rfl
     have u2_1_136:=u2_1_136.stp hs rfl
     have u2_2_136:=u2_2_136.stp hs rfl
     have x6:=x6.stp hs rfl
     have y6:=y6.stp hs
     have k8:=k8.stp hs rfl
     have l5:=l5.stp hs
     have oD:=oD.stp hs
     clear cb
     refine EL_do .plain rfl (D_storeOc (g:=qH) (v:=pH) Tryz.sizeOf65 rfl b152 rfl oD fun oB sH hs b153 cb=>?_)
     clear cb
     have hfr:=hfr.stp hs
     have i6:=i6.stp hs
     have u2_0_136:=u2_0_136.stp hs rfl
     have u2_1_136:=u2_1_136.stp hs rfl
     have u2_2_136:=u2_2_136.stp hs rfl
     have x6:=x6.stp hs rfl
     have y6:=y6.stp hs
     have k8:=k8.stp hs rfl
     have l5:=l5.stp hs
     refine EL_nil (thn_n (E_region (EL_mv yA rfl ?_)))
     refine EL_p (fPtr cF 1) (P_fieldAddr at_65_1 rfl (OB.ptr b153)) rfl ?_
     refine EL_do .plain rfl (D_loadF (g:=oB) part_BoxShuttle_1.1 Tryz.isAgg3 Tryz.sizeOf3 rfl b153 fun vK tH=>?_)
     obtain rfl:=RV_int.1 tH
     refine EL_p (fPtr cF 2) (P_fieldAddr at_65_2 rfl (OB.ptr b153)) rfl ?_
     refine EL_do .plain rfl (D_loadF (g:=oB) part_BoxShuttle_2.1 Tryz.isAgg3 Tryz.sizeOf3 rfl b153 fun xK uH=>?_)
     obtain rfl:=RV_int.1 uH
     have dF:RV oB.m sH (⟨List.toArray [(m7).Side,(m7).Box],rfl⟩:Vector Int 2) (.agg (setCh [[.int .i64 0],[.int .i64 0]] [(0,.int .i64 ((m7).Side)),(1,.int .i64 ((m7).Box))]).flatten.toArray):=RV_build rfl (rep_vec (flat_chunk rfl (flat_chunk rfl flat_nil)) rfl)
     generalize sG:(Value.agg (setCh [[.int .i64 0],[.int .i64 0]] [(0,.int .i64 ((m7).Side)),(1,.int .i64 ((m7).Box))]).flatten.toArray)=xH at dF
     refine EL_p xH (sG ▸ P_buildA (vs:=[(0,.int .i64 ((m7).Side)),(1,.int .i64 ((m7).Box))]) [[.int .i64 0],[.int .i64 0]] Tryz.underlying133 layA_133 szA_3 rfl (by simp) (.cons rfl (.cons rfl .nil)) ⟨⟨_,rfl,rfl⟩,⟨⟨_,rfl,rfl⟩,trivial⟩⟩) rfl ?_
     refine EL_do .plain rfl (D_mapUpdate (g:=oB) Tryz.underlying132 key_133 rfl k8 (rfl.trans (encK_of pl_133 dF)) rfl (RV_bool.2 rfl) fun yH yK hs m159=>?_)
     have hfr:=hfr.stp hs
     have i6:=i6.stp hs
     have u2_0_136:=u2_0_136.stp hs rfl
     have u2_1_136:=u2_1_136.stp hs rfl
     have u2_2_136:=u2_2_136.stp hs rfl
     have x6:=x6.stp hs rfl
     have y6:=y6.stp hs
     have l5:=l5.stp hs
     refine EL_nil (blk_n ?_)
     obtain rfl:=sinj h
     exact hQ _ _ ⟨yH,hfr,cC,i6,mC,x6,u2_0_136,u2_1_136,u2_2_136,qC,y6,yA,m159,iB,l5,lB,y9⟩
    ·clear hx
     obtain ⟨zH,hfr,eF,rF,sF,tF,u2_0_160,u2_1_160,u2_2_160,uF,vF,xF,yF,zD,aE,bE,iE⟩:=hR
     refine E_region (EL_in (.int .i64 ((w64 (u3 + (1:Int))))) iE rfl rfl rfl ?_)
     refine EL_mw (.int .i64 ((w64 (u3 + (1:Int))))) rfl rfl ?_
     exact EL_nil (thn_n (mG (k9,(w64 (u3 + (1:Int)))) _ _ ⟨zH,hfr,eF,rF,sF,tF,u2_0_160,u2_1_160,u2_2_160,uF,vF,xF,yF,zD,aE,bE,rfl⟩ h))
   ·refine E_cf nB rfl ?_
    refine E_exit ?_
    refine thn_e ?_
    refine thn_e ?_
    refine blk_hit ?_
    obtain rfl:=sinj h
    exact hQ _ _ ⟨nD,hfr,cC,i6,mC,x6,u2_0_136,u2_1_136,u2_2_136,qC,y6,yA,k8⟩
  ·clear hx
   obtain ⟨aB,hfr,zF,rC,dB,uC,u2_0_161,u2_1_161,u2_2_161,vC,aD,aG,bG⟩:=hR
   refine E_joinC h (fun (s:BoxBoxLoom) e w=>∃ (g:Gh) ,Fr gI wI g w∧e 2=p2∧OB 2002 g w 83 (s:BoxBoxLoom) p2∧OSF 2002 60200 0 g w 3 83 (((s).BoxLoom).Boxes) p2∧OSF 2002 60201 1 g w 3 83 (((s).BoxLoom).At) p2∧OSF 2002 60202 2 g w 65 83 (((s).BoxLoom).Shuttles) p2∧e 4=p5∧PT g.m w ((⟨x0⟩:BoxBoxLoom):BoxBoxLoom) p5) (fun X168 oE xG h=>?_) ?_
   ·refine E_seq (E_region (EL_mv aG rfl ?_))
    refine EL_do .plain rfl (P_lenMap (g:=aB) Tryz.underlying132 rfl bG ?_)
    refine EL_p (fPtr p1 2) (P_fieldAddr at_33_2 zF (PT.ptr rC)) rfl ?_
    have aI:=PT_field (part_BoxLoom_2).1 rC
    refine EL_do .plain rfl (D_load (g:=aB) Tryz.isAgg31 Tryz.sizeOf31 rfl aI fun zK bI=>?_)
    refine EL_p (.int .i64 (((x0).Shuttles).length:Int)) (P_len Tryz.underlying31 rfl bI) rfl ?_
    refine EL_p (.bool ((decide (((l9).length:Int) < (((x0).Shuttles).length:Int))))) (P_int rfl rfl rfl) rfl ?_
    refine EL_nil (thn_n ?_)
    rcases csome h with ⟨tB,h⟩ | ⟨tB,h⟩
    ·refine E_ct tB rfl ?_
     refine E_seq (E_region (EL_do .plain rfl (D_load (g:=aB) Tryz.isAgg83 Tryz.sizeOf83 vC aD fun dI iI=>?_)))
     refine EL_do .plain rfl (D_storeOc (g:=aB) (v:=dI) Tryz.sizeOf83 dB uC rfl iI fun aL bL hs b173 cb=>?_)
     clear cb
     have hfr:=hfr.stp hs
     refine EL_at (.int .i64 (6)) rfl rfl ?_
     refine EL_nil (thn_n (E_ret (thn_r ?_)))
     obtain rfl:=sinj h
     obtain ⟨ad174,cv174,hp174,yG,cr174⟩:=ob_read Tryz.isAgg83 Tryz.sizeOf83 b173
     exact endm_ct rfl rfl ((show _=p2 from dB).trans hp174) yG (show _=.int .i64 (6) from rfl) ⟨_,hfr,_,_,rfl,cr174,rfl⟩
    ·refine E_cf tB rfl ?_
     exact E_skip (thn_n (xG (o0) _ _ ⟨aB,hfr,dB,uC,u2_0_161,u2_1_161,u2_2_161,vC,aD⟩ h))
   ·rintro mE xJ dL ⟨cG, hfr, bD, eG, u2_0_175, u2_1_175, u2_2_175, gG, hG⟩ h
    refine E_seq (E_region (EL_do .plain rfl (D_load (g:=cG) Tryz.isAgg83 Tryz.sizeOf83 gG hG fun jI kI=>?_)))
    refine EL_do .plain rfl (D_storeOc (g:=cG) (v:=jI) Tryz.sizeOf83 bD eG rfl kI fun eL gL hs b177 cb=>?_)
    clear cb
    have hfr:=hfr.stp hs
    refine EL_at (.int .i64 (0)) rfl rfl ?_
    refine EL_nil (thn_n (E_ret ?_))
    obtain rfl:=sinj h
    obtain ⟨ad178,cv178,hp178,zG,cr178⟩:=ob_read Tryz.isAgg83 Tryz.sizeOf83 b177
    exact endm_ct rfl rfl ((show _=p2 from bD).trans hp178) zG (show _=.int .i64 (0) from rfl) ⟨_,hfr,_,_,rfl,cr178,rfl⟩
def f33 : Nat → (BoxMill) → (List (BoxPoint × Int)) → (List (List Int)) → (BoxPoint) → Option (Int × (List (BoxPoint × Int)))
 | 0,_,_,_,_=>none
 | n + 1,x0,m0,x1,x2=>
  jn (σ:=Unit) (fun _=>
   jn (σ:=Unit) (fun _=>
    Option.bind (α:=Int × (List (BoxPoint × Int))) (
     (f57 x0 ((x2).race)).bind fun bD=>
     (bD (Int × (List (BoxPoint × Int))) (fun (u9,l9) (uD,x8)=>
      (f58 x2 x1 x8).bind fun aB=>
      bif aB.2 then
       (f33 n x0 l9 x1 (aB.1)).bind fun dB=>
       some (true,((min64 u9 (w64 ((x8).moves + dB.1))),dB.2))
      else
       some (true,(u9,l9))
      ) ((1073741824:Int),m0)).bind fun (vC,yA)=>
     some (vC,yA)
     ) fun (a9,n9)=>
    some (a9,(mset n9 x2 a9))
    ) fun lG=>
   bif ((mget m0 x2).isSome) then
    some (((mget m0 x2).getD (0:Int)),m0)
   else
    lG ()
   ) fun k9=>
  bif ((x2).group == ((x1).length : Int)) then
   some ((0:Int),m0)
  else
   k9 ()
theorem en33:Enters Tryz.prog 33:=enters_of Tryz.func33 (by kernel_rfl) rfl
theorem wk33 (n:Nat):∀ {iI:Nat} {gI:Gh} {wI:World} {x0:BoxMill} {m0:List (BoxPoint × Int)} {x1:List (List Int)} {x2:BoxPoint} {up0:Value} (rp0:PT gI.m wI x0 up0) {kv500000:Value} (fc0:FC gI.m wI 2 kv500000 up0) (mp500000:MP (encK pl_98) iI gI wI m0 kv500000) {up1:Value} (rp1:RV gI.m wI x1 up1) {up2:Value} (rp2:RV gI.m wI x2 up2) {r:Int × (List (BoxPoint × Int))} (h:f33 n x0 m0 x1 x2=some r),FnM Tryz.prog 33 #[up0,up1,up2] iI gI wI (fun g w v=>v=.int .i64 (r.1)∧MP (encK pl_98) iI g w (r.2) kv500000):=by
 induction n with
 | zero=>intros; rename_i h; cases h
 | succ n ih=>
 intro iI gI wI x0 m0 x1 x2 up0 rp0 kv500000 fc0 mp500000 up1 rp1 up2 rp2 r h
 simp only [f33] at h
 refine fnDM_of_E Tryz.func33 rfl (Nat.le_of_ble_eq_true rfl) fun g0 hm hfr=>?_
 have hmk:MkF g0 wI []:=MkF.start
 have bA:=mp500000
 replace mp500000:=mp500000.enter
 rw [← hm] at mp500000
 replace hm:g0.m=gI.m:=by rw [hm]
 have hone500200:=PT.one rp0
 have fc0:FC g0.m wI 2 kv500000 up0:=hm ▸ fc0
 have rp0:PT g0.m wI x0 up0:=hm ▸ rp0
 have rp1:RV g0.m wI x1 up1:=hm ▸ rp1
 have rp2:RV g0.m wI x2 up2:=hm ▸ rp2
 show E _ 60 none _ _ _ _ _
 refine E_seq (E_region (EL_do .plain rfl (D_box (g:=g0) (a:=(⟨up0,hone500200⟩:Fv)) rfl (RV_fv.2 rfl) fun g1 w1 p1 hs q1=>?_)))
 have hfr:=hfr.ext hs
 have hmk:=hmk.ext hs
 have rp0:=rp0.ext hs
 have mp500000:=mp500000.ext hs
 have fc0:=fc0.ext hs
 have rp1:=rp1.ext hs
 have rp2:=rp2.ext hs
 refine EL_do .plain rfl (D_box (g:=g1) rfl rp1 fun g2 w2 p2 hs q2=>?_)
 have hfr:=hfr.ext hs
 have hmk:=hmk.ext hs
 have rp0:=rp0.ext hs
 have mp500000:=mp500000.ext hs
 have fc0:=fc0.ext hs
 have rp2:=rp2.ext hs
 have q1:=q1.ext hs
 refine EL_do .plain rfl (D_box (g:=g2) rfl rp2 fun g3 w3 p3 hs q3=>?_)
 have hfr:=hfr.ext hs
 have hmk:=hmk.ext hs
 have rp0:=rp0.ext hs
 have mp500000:=mp500000.ext hs
 have fc0:=fc0.ext hs
 have q1:=q1.ext hs
 have q2:=q2.ext hs
 refine EL_at (.int .i64 (0)) rfl rfl ?_
 refine EL_nil (thn_n (E_joinCD h (fun (s:Unit) e ds w=>∃ (g:Gh) ,FrM iI gI wI g w∧MkF g w ds∧e 3=p1∧PT g.m w (⟨up0,hone500200⟩:Fv) p1∧e 4=p2∧PT g.m w (x1:List (List Int)) p2∧e 5=p3∧PT g.m w (x2:BoxPoint) p3∧MP (encK pl_98) 1 g w (m0:List (BoxPoint × Int)) kv500000∧FC g.m w 2 kv500000 up0∧PT g.m w (x0:BoxMill) up0) (fun X9 k9 tI h=>?_) ?_))
 ·refine E_seq (E_region (EL_p (fPtr p3 0) (P_fieldAddr at_98_0 rfl (PT.ptr q3)) rfl ?_))
  have uI:=PT_field (part_BoxPoint_0).1 q3
  refine EL_do .plain rfl (D_load (g:=g3) Tryz.isAgg3 Tryz.sizeOf3 rfl uI fun dL vI=>?_)
  obtain rfl:=RV_int.1 vI
  refine EL_do .plain rfl (D_load (g:=g3) Tryz.isAgg87 Tryz.sizeOf87 rfl q2 fun eL yI=>?_)
  refine EL_p (.int .i64 ((x1).length:Int)) (P_len Tryz.underlying87 rfl yI) rfl ?_
  refine EL_in (.bool (((x2).group == ((x1).length:Int)))) rfl rfl rfl rfl ?_
  refine EL_nil (thn_n ?_)
  rcases csome h with ⟨cD,h⟩ | ⟨cD,h⟩
  ·refine E_ct cD rfl ?_
   refine E_seq (E_region (EL_at (.int .i64 (0)) rfl rfl ?_))
   refine EL_nil (thn_n (E_ret (thn_r ?_)))
   refine endM (.inr rfl) hmk fun gL iL hs=>?_
   have hfr:=hfr.stp hs
   have mp500000:=mp500000.stp hs rfl
   obtain rfl:=sinj h
   exact end1 rfl rfl (show _=.int .i64 (0) from rfl) ⟨_,hfr,rfl,bA.back mp500000⟩
  ·refine E_cf cD rfl ?_
   exact E_skip (thn_n (tI () _ _ _ ⟨g3,hfr,hmk,rfl,q1,rfl,q2,rfl,q3,mp500000,fc0,rp0⟩ h))
 ·rintro _ yJ pJ w15 ⟨vD, hfr, hmk, lD, lB, vF, cC, nD, mB, g8, n8, m8⟩ h
  refine E_joinCD h (fun (s:Unit) e ds w=>∃ (g:Gh) ,FrM iI gI wI g w∧MkF g w ds∧e 3=p1∧PT g.m w (⟨up0,hone500200⟩:Fv) p1∧e 4=p2∧PT g.m w (x1:List (List Int)) p2∧e 5=p3∧PT g.m w (x2:BoxPoint) p3∧MP (encK pl_98) 1 g w (m0:List (BoxPoint × Int)) kv500000∧FC g.m w 2 kv500000 up0∧PT g.m w (x0:BoxMill) up0) (fun X31 lG xG h=>?_) ?_
  ·refine E_seq (L_load (α := Fv) (x := .tmp 3) Tryz.isAgg99 Tryz.sizeOf99 lB fun mG sG yG => ?_)
   have e39:mG=up0:=RV_fv.1 sG
   clear sG
   subst mG
   obtain ⟨pb40,po40,pe40⟩:=PT.ptr m8
   have zG:=L_loadFC (P:=Tryz.prog) (x:=.tmp 22) Tryz.isAgg134 Tryz.sizeOf134 (mp_one g8) n8
   refine L_load (x:=.tmp 5) Tryz.isAgg98 Tryz.sizeOf98 mB fun zI xD aH=>?_
   refine E_drawC (g:=vD) (w:=w15) (n:=10) [0,1,2,3,4,6,7,8,9] [] [0,1,2,3,4,5,6,7,8,9] rfl mixed (by kernel_rfl) fun w_c38 hs hlt=>?_
   have hfr:=hfr.ext hs
   have hmk:=hmk.ext hs
   have lB:=lB.ext hs
   have cC:=cC.ext hs
   have mB:=mB.ext hs
   have g8:=g8.ext hs
   have n8:=n8.ext hs
   have m8:=m8.ext hs
   clear hs
   refine CH_ldP (c:=up0) rfl rfl .plain yG lD ?_
   refine CH_pur (c:=up0) rfl rfl .plain (P_nilCk rfl pe40) ?_
   refine CH_pur (c:=fPtr up0 2) rfl rfl .plain (P_fieldAddr at_136_2 rfl (PT.ptr m8)) ?_
   refine CH_ldP (c:=kv500000) rfl rfl .plain zG rfl ?_
   refine CH_ldP (c:=zI) rfl rfl .plain aH nD ?_
   have xD:=xD.ch hlt.1
   refine CH_do rfl rfl .plain (D_lookupOk (g:=vD) (z0:=(0:Int)) Tryz.underlying134 key_98 Tryz.zeroValue3 (fun m w=>⟨_,rep_int,rfl⟩) rfl g8 (rfl.trans (encK_of pl_98 xD)) fun jL eJ=>?_)
   obtain rfl:=RV_int.1 eJ
   refine ⟨hlt.toW,?_⟩
   refine CH_pur (c:=.tuple #[.int .i64 (((mget m0 x2).getD (0:Int))),.bool ((mget m0 x2).isSome)]) rfl rfl .plain (P_move rfl) ?_
   refine CH_pur (c:=.int .i64 (((mget m0 x2).getD (0:Int)))) rfl rfl .plain (P_extract rfl rfl) ?_
   refine CH_pur (c:=.bool ((mget m0 x2).isSome)) rfl rfl .plain (P_extract rfl rfl) ?_
   refine CH_pur (c:=.int .i64 (((mget m0 x2).getD (0:Int)))) rfl rfl .plain (P_assign rfl) ?_
   refine CH_nil ?_
   clear hlt
   refine EL_at (.bool ((mget m0 x2).isSome)) rfl rfl ?_
   refine EL_nil (thn_n (E_seq (E_region (EL_mw (.bool ((mget m0 x2).isSome)) rfl rfl ?_))))
   refine EL_nil (thn_n ?_)
   rcases csome h with ⟨eD,h⟩ | ⟨eD,h⟩
   ·refine E_ct eD rfl ?_
    refine E_seq (E_region (EL_mw (.int .i64 (((mget m0 x2).getD (0:Int)))) rfl rfl ?_))
    refine EL_at (.int .i64 (((mget m0 x2).getD (0:Int)))) rfl rfl ?_
    refine EL_nil (thn_n (E_ret (thn_r ?_)))
    refine endM (.inr rfl) hmk fun lL mL hs=>?_
    have hfr:=hfr.stp hs
    have g8:=g8.stp hs rfl
    obtain rfl:=sinj h
    exact end1 rfl rfl (show _=.int .i64 (((mget m0 x2).getD (0:Int))) from rfl) ⟨_,hfr,rfl,bA.back g8⟩
   ·refine E_cf eD rfl ?_
    exact E_skip (thn_n (xG () _ _ _ ⟨vD,hfr,hmk,lD,lB,vF,cC,nD,mB,g8,n8,m8⟩ h))
  ·rintro _ zJ oD nL ⟨gJ, hfr, hmk, mC, d9, sD, iA, qC, v8, l8, k8, m7⟩ h
   refine E_seq (E_region (EL_do .plain rfl (D_allocOc (g:=gJ) 2009 (0:Int) Tryz.zeroValue3 (fun m w=>⟨_,rep_int,rfl⟩) fun iJ oL yD hs b48 cb=>?_)))
   have hfr:=hfr.stp hs
   have hmk:=hmk.stp hs
   have d9:=d9.stp hs
   have iA:=iA.stp hs
   have v8:=v8.stp hs
   have l8:=l8.stp hs rfl
   have k8:=k8.stp hs
   have m7:=m7.stp hs
   clear cb
   refine EL_do .plain rfl (D_storeOc (g:=iJ) (v:=.int .i64 (1073741824)) Tryz.sizeOf3 rfl b48 rfl (RV_int.2 rfl) fun zD pL hs b49 cb=>?_)
   clear cb
   have hfr:=hfr.stp hs
   have hmk:=hmk.stp hs
   have d9:=d9.stp hs
   have iA:=iA.stp hs
   have v8:=v8.stp hs
   have l8:=l8.stp hs rfl
   have k8:=k8.stp hs
   have m7:=m7.stp hs
   refine EL_nil (thn_n ?_)
   obtain ⟨⟨a9,n9⟩,hx,h⟩:=bsome h
   refine E_joinD (fun e ds w=>∃ (g:Gh) ,FrM iI gI wI g w∧MkF g w ds∧e 3=p1∧PT g.m w (⟨up0,hone500200⟩:Fv) p1∧e 5=p3∧PT g.m w (x2:BoxPoint) p3∧e 9=yD∧OB 2009 g w 3 (a9:Int) yD∧MP (encK pl_98) 1 g w (n9:List (BoxPoint × Int)) kv500000∧FC g.m w 2 kv500000 up0∧PT g.m w (x0:BoxMill) up0) (fun Q' hQ=>?_) (fun qJ jJ aK hR=>?_)
   ·replace h := hx
    clear hx
    refine E_seq (E_region (EL_do .plain rfl (D_load (α:=Fv) (g:=zD) Tryz.isAgg99 Tryz.sizeOf99 mC d9 fun aE bE=>?_)))
    have e114:aE=up0:=RV_fv.1 bE
    clear bE
    subst aE
    refine EL_p (fPtr p3 2) (P_fieldAddr at_98_2 qC (PT.ptr v8)) rfl ?_
    have cH:=PT_field (part_BoxPoint_2).1 v8
    refine EL_do .plain rfl (D_load (g:=zD) Tryz.isAgg94 Tryz.sizeOf94 rfl cH fun dH gH=>?_)
    obtain ⟨bD,xF,h⟩:=bsome h
    refine EL_do .plain rfl (D_call (g:=zD) (vs:=[up0,dH]) en57 (.cons rfl (.cons rfl .nil)) (wk57 m7 gH xF) fun bK rJ iH hs hr=>?_)
    have hfr:=hfr.ext hs
    have hmk:=hmk.ext hs
    have d9:=d9.ext hs
    have iA:=iA.ext hs
    have v8:=v8.ext hs
    have l8:=l8.ext hs
    have k8:=k8.ext hs
    have m7:=m7.ext hs
    have b49:=b49.ext hs
    have iE:=hr
    refine EL_nil (thn_n (E_block ?_))
    have hB0:=hfr.size
    have hmk0:=hmk
    obtain ⟨⟨vC,yA⟩,hφ,h⟩:=bsome h
    refine E_rangeFunc (σ:=(Int × (List (BoxPoint × Int)))) (s0:=((1073741824:Int),m0)) 10 rfl (fun _=>0) [] (fun (s:Int × (List (BoxPoint × Int))) (g:Gh) (w:World)=>FrM iI gI wI g w∧MkF g w oD∧PT g.m w (⟨up0,hone500200⟩:Fv) p1∧PT g.m w (x1:List (List Int)) p2∧PT g.m w (x2:BoxPoint) p3∧OB 2009 g w 3 (s.1:Int) yD∧ItV Tryz.prog (RA2 (α:=BoxPick) (β:=BoxStep)) bD iH g.m w∧MP (encK pl_98) 1 g w (s.2:List (BoxPoint × Int)) kv500000∧FC g.m w 2 kv500000 up0∧PT g.m w (x0:BoxMill) up0) rfl iE hφ (fun _ _ _ _=>rfl) rfl ra2_size rfl (fun _ _ _ _ _ hx hR=>by obtain ⟨hfr,hmk,z2,z3,z4,z5,z6,z7,z8,z9⟩:=hR; exact ⟨hfr.ist hx hB0,hmk.ist hx,z2.ist hx,z3.ist hx,z4.ist hx,z5.ist hx,z6.ist hx,z7.ist hx,z8.ist hx,z9.ist hx⟩) (fun _ _ _ _ _ hx hR=>by obtain ⟨hfr,hmk,z2,z3,z4,z5,z6,z7,z8,z9⟩:=hR; exact ⟨hfr.stp hx,hmk.stp hx,z2.stp hx,z3.stp hx,z4.stp hx,z5.stp hx rfl,z6.stp hx,z7.stp hx rfl,z8.stp hx,z9.stp hx⟩) ⟨hfr,hmk,d9,iA,v8,b49,iE,l8,k8,m7⟩ (fun _ h=>by cases h) ?_ ?_
    ·intro sJ kJ s x b s2 lE jH vs hsz h hR hrec_0 tD hrd
     obtain ⟨u9,l9⟩:=s
     obtain ⟨hfr,hmk,i6,x5,x6,y6,t5,l5,o0,u3⟩:=hR
     obtain ⟨uD,x8⟩:=x
     obtain ⟨lJ,mE,rfl,qI,iB⟩:=ra2_get hrd
     have i7:=RFr.refl lE jH
     refine E_region (EL_do .plain rfl (D_allocOc (g:=lE) 2011 (⟨⟨(⟨List.toArray [(⟨List.toArray [0,0,0,0],rfl⟩:Vector Int 4),(⟨List.toArray [0,0,0,0],rfl⟩:Vector Int 4)],rfl⟩:Vector (Vector Int 4) 2),⟨0,0⟩⟩,0,0⟩:BoxStep) Tryz.zeroValue141 (fun m w=>⟨_,(rep_two (rep_two (rep_vec (flat_chunk (rep_vec (flat_chunk rep_int (flat_chunk rep_int (flat_chunk rep_int (flat_chunk rep_int flat_nil)))) rfl) (flat_chunk (rep_vec (flat_chunk rep_int (flat_chunk rep_int (flat_chunk rep_int (flat_chunk rep_int flat_nil)))) rfl) flat_nil)) rfl) (rep_two rep_int rep_int)) (rep_two rep_int rep_int)),rfl⟩) fun kH cK lH hs b148 cb=>?_))
     have hfr:=hfr.stp hs
     have hmk:=hmk.stp hs
     have i7:=i7.stp hs
     have hrec_0:=hrec_0.stp hs rfl
     have i6:=i6.stp hs
     have x5:=x5.stp hs
     have x6:=x6.stp hs
     have y6:=y6.stp hs rfl
     have t5:=t5.stp hs
     have l5:=l5.stp hs rfl
     have o0:=o0.stp hs
     have u3:=u3.stp hs
     have iB:=iB.stp hs
     clear cb
     refine EL_do .plain rfl (D_storeOc (g:=kH) (v:=mE) Tryz.sizeOf141 rfl b148 rfl iB fun rC dK hs b149 cb=>?_)
     clear cb
     have hfr:=hfr.stp hs
     have hmk:=hmk.stp hs
     have i7:=i7.stp hs
     have hrec_0:=hrec_0.stp hs rfl
     have i6:=i6.stp hs
     have x5:=x5.stp hs
     have x6:=x6.stp hs
     have y6:=y6.stp hs rfl
     have t5:=t5.stp hs
     have l5:=l5.stp hs rfl
     have o0:=o0.stp hs
     have u3:=u3.stp hs
     refine EL_nil (thn_n ?_)
     obtain ⟨mH,hbr,hs,hrN⟩:=begin_round hrec_0 tD
     refine ⟨mH,hbr,?_⟩
     have hfr:=hfr.stp hs
     have hmk:=hmk.stp hs
     have i7:=i7.stp hs
     have i6:=i6.stp hs
     have x5:=x5.stp hs
     have x6:=x6.stp hs
     have y6:=y6.stp hs rfl
     have t5:=t5.stp hs
     have l5:=l5.stp hs rfl
     have o0:=o0.stp hs
     have u3:=u3.stp hs
     have b149:=b149.stp hs rfl
     have hrec_0:=hrN
     clear hbr hs hrN
     refine E_block ?_
     refine E_seq (E_region (EL_do .plain rfl (D_load (g:=rC) Tryz.isAgg98 Tryz.sizeOf98 qC x6 fun nH oH=>?_)))
     refine EL_do .plain rfl (D_load (g:=rC) Tryz.isAgg87 Tryz.sizeOf87 sD x5 fun pH qH=>?_)
     refine EL_do .plain rfl (D_loadO (g:=rC) Tryz.isAgg141 Tryz.sizeOf141 rfl b149 fun sH tH=>?_)
     obtain ⟨aB,yF,h⟩:=bsome h
     refine EL_do .plain rfl (D_call (g:=rC) (vs:=[nH,pH,sH]) en58 (.cons rfl (.cons rfl (.cons rfl .nil))) (wk58 oH qH tH yF) fun uH vJ lK hs hr=>?_)
     have hfr:=hfr.ext hs
     have hmk:=hmk.ext hs
     have i7:=i7.ext hs
     have hrec_0:=hrec_0.ext hs
     have i6:=i6.ext hs
     have x5:=x5.ext hs
     have x6:=x6.ext hs
     have y6:=y6.ext hs
     have t5:=t5.ext hs
     have l5:=l5.ext hs
     have o0:=o0.ext hs
     have u3:=u3.ext hs
     have b149:=b149.ext hs
     obtain ⟨nB,mJ,rfl,oB,rfl⟩:=hr
     refine EL_mw (.tuple #[nB,.bool (aB.2)]) rfl rfl ?_
     refine EL_p nB (P_extract rfl rfl) rfl ?_
     refine EL_p (.bool (aB.2)) (P_extract rfl rfl) rfl ?_
     refine EL_do .plain rfl (D_allocOc (g:=uH) 2012 (⟨0,0,⟨(⟨List.toArray [(⟨List.toArray [0,0,0,0],rfl⟩:Vector Int 4),(⟨List.toArray [0,0,0,0],rfl⟩:Vector Int 4)],rfl⟩:Vector (Vector Int 4) 2),⟨0,0⟩⟩⟩:BoxPoint) Tryz.zeroValue98 (fun m w=>⟨_,(rep_two rep_int (rep_two rep_int (rep_two (rep_vec (flat_chunk (rep_vec (flat_chunk rep_int (flat_chunk rep_int (flat_chunk rep_int (flat_chunk rep_int flat_nil)))) rfl) (flat_chunk (rep_vec (flat_chunk rep_int (flat_chunk rep_int (flat_chunk rep_int (flat_chunk rep_int flat_nil)))) rfl) flat_nil)) rfl) (rep_two rep_int rep_int)))),rfl⟩) fun xH mK nK hs b156 cb=>?_)
     have hfr:=hfr.stp hs
     have hmk:=hmk.stp hs
     have i7:=i7.stp hs
     have hrec_0:=hrec_0.stp hs rfl
     have i6:=i6.stp hs
     have x5:=x5.stp hs
     have x6:=x6.stp hs
     have y6:=y6.stp hs rfl
     have t5:=t5.stp hs
     have l5:=l5.stp hs rfl
     have o0:=o0.stp hs
     have u3:=u3.stp hs
     have b149:=b149.stp hs rfl
     have oB:=oB.stp hs
     clear cb
     refine EL_do .plain rfl (D_storeOc (g:=xH) (v:=nB) Tryz.sizeOf98 rfl b156 rfl oB fun oE yH hs b157 cb=>?_)
     clear cb
     have hfr:=hfr.stp hs
     have hmk:=hmk.stp hs
     have i7:=i7.stp hs
     have hrec_0:=hrec_0.stp hs rfl
     have i6:=i6.stp hs
     have x5:=x5.stp hs
     have x6:=x6.stp hs
     have y6:=y6.stp hs rfl
     have t5:=t5.stp hs
     have l5:=l5.stp hs rfl
     have o0:=o0.stp hs
     have u3:=u3.stp hs
     have b149:=b149.stp hs rfl
     refine EL_at (.bool (aB.2)) rfl rfl ?_
     refine EL_nil (thn_n (E_seq (E_region (EL_mw (.bool (aB.2)) rfl rfl ?_))))
     refine EL_nil (thn_n ?_)
     rcases csome h with ⟨uC,h⟩ | ⟨uC,h⟩
     ·refine E_ct uC rfl ?_
      refine L_loadO0 (x:=.tmp 9) Tryz.isAgg3 Tryz.sizeOf3 y6 fun oK zH zF=>?_
      obtain rfl:=RV_int.1 zH
      refine L_loadO (x:=.tmp 45) part_BoxStep_2.1 Tryz.isAgg3 Tryz.sizeOf3 b149 fun pK aI aG=>?_
      obtain rfl:=RV_int.1 aI
      refine L_load (α:=Fv) (x:=.tmp 3) Tryz.isAgg99 Tryz.sizeOf99 i6 fun rE uE bG=>?_
      have e169:rE=up0:=RV_fv.1 uE
      clear uE
      subst rE
      refine L_load (x:=.tmp 4) Tryz.isAgg87 Tryz.sizeOf87 x5 fun vE gD cG=>?_
      refine L_loadO0 (x:=.tmp 12) Tryz.isAgg98 Tryz.sizeOf98 b157 fun xE iD eG=>?_
      obtain ⟨dB,gG,h⟩:=bsome h
      refine E_drawC (g:=oE) (w:=yH) (n:=8) [0,1,2,3,4,5,7] [2009,2011,2012] [0,1,2,3,4,5,6,7] rfl mixed (by kernel_rfl) fun w_c165 hs hlt=>?_
      have hfr:=hfr.ext hs
      have hmk:=hmk.ext hs
      have i7:=i7.ext hs
      have hrec_0:=hrec_0.ext hs
      have i6:=i6.ext hs
      have x5:=x5.ext hs
      have x6:=x6.ext hs
      have y6:=y6.ext hs
      have t5:=t5.ext hs
      have l5:=l5.ext hs
      have o0:=o0.ext hs
      have u3:=u3.ext hs
      have b149:=b149.ext hs
      clear hs
      refine CH_ldO (n:=2009) (c:=.int .i64 (u9)) rfl rfl .plain zF rfl rfl ?_
      refine CH_pur (c:=fPtr lH 11) rfl rfl .plain (P_fieldAddr at_141_2 rfl (OB.ptr b149)) ?_
      refine CH_ldO (n:=2011) (c:=.int .i64 ((x8).moves)) rfl rfl .plain aG rfl rfl ?_
      refine CH_ldP (c:=up0) rfl rfl .plain bG mC ?_
      refine CH_ldP (c:=vE) rfl rfl .plain cG sD ?_
      have gD:=gD.ch hlt.1
      refine CH_ldO (n:=2012) (c:=xE) rfl rfl .plain eG rfl rfl ?_
      have iD:=iD.ch hlt.1
      refine CH_do rfl rfl .plain (D_callM (g:=oE) (i:=1) (vs:=[up0,vE,xE]) en33 (.cons rfl (.cons rfl (.cons rfl .nil))) (ih u3 o0 l5 gD iD gG) fun bI xJ qK hs hr=>?_)
      obtain ⟨hrv,b172⟩:=hr
      have hfr:=hfr.stp hs
      have hmk:=hmk.stp hs
      have i7:=i7.stp hs
      have hrec_0:=hrec_0.stp hs rfl
      have hlt:=hlt.stp hs
      have i6:=i6.stp hs
      have x5:=x5.stp hs
      have x6:=x6.stp hs
      have y6:=y6.stp hs rfl
      have t5:=t5.stp hs
      have o0:=o0.stp hs
      have u3:=u3.stp hs
      subst hrv
      refine ⟨hlt.toW,?_⟩
      refine CH_pur (c:=.int .i64 ((w64 ((x8).moves + dB.1)))) rfl rfl .plain (P_int rfl rfl rfl) ?_
      refine CH_nil ?_
      clear hlt
      refine EL_p (.int .i64 (min64 u9 (w64 ((x8).moves + dB.1)))) (P_min rfl rfl) rfl ?_
      refine EL_do .plain rfl (D_storeOc (g:=bI) (v:=.int .i64 (min64 u9 (w64 ((x8).moves + dB.1)))) Tryz.sizeOf3 rfl y6 rfl (RV_int.2 rfl) fun sK tK hs b174 cb=>?_)
      clear cb
      have hfr:=hfr.stp hs
      have hmk:=hmk.stp hs
      have i7:=i7.stp hs
      have hrec_0:=hrec_0.stp hs rfl
      have i6:=i6.stp hs
      have x5:=x5.stp hs
      have x6:=x6.stp hs
      have t5:=t5.stp hs
      have b172:=b172.stp hs rfl
      have o0:=o0.stp hs
      have u3:=u3.stp hs
      refine EL_nil (blk_n ?_)
      obtain ⟨rfl,rfl⟩:=pairs2 h
      exact ⟨_,i7,⟨hfr,hmk,i6,x5,x6,b174,t5,b172,o0,u3⟩,hrec_0,rfl,rfl⟩
     ·refine E_cf uC rfl ?_
      refine E_skip (blk_n ?_)
      obtain ⟨rfl,rfl⟩:=pairs2 h
      exact ⟨_,i7,⟨hfr,hmk,i6,x5,x6,y6,t5,l5,o0,u3⟩,hrec_0,rfl,rfl⟩
    ·intro dI uK ds176 hsz hR hds
     obtain ⟨hfr,hmk,yE,nJ,zE,cF,sI,zB,tB,vB⟩:=hR
     obtain ⟨D,hdse,hD,hDb⟩:=hds.1 rfl
     subst hdse
     replace hmk:=MkF.push hmk0 hmk hD hDb
     clear hD hDb hds
     revert hmk
     generalize ({ target:=.collected D,args:=#[] } :: oD:List Deferred)=oJ
     intro hmk
     refine ⟨fun _=>?_,fun k c hs _=>absurd hs (Nat.succ_ne_zero k).symm⟩
     refine blk_n ?_
     obtain ⟨rfl,rfl⟩:=pairs2 h
     exact hQ _ _ _ ⟨dI,hfr,hmk,mC,yE,qC,zE,rfl,cF,zB,tB,vB⟩
   ·clear hx
    obtain ⟨jI,hfr,hmk,dF,eF,rF,sF,aD,y9,r8,yB,rA⟩:=hR
    refine E_seq (L_load (α:=Fv) (x:=.tmp 3) Tryz.isAgg99 Tryz.sizeOf99 eF fun tF uF hG=>?_)
    have e178:tF=up0:=RV_fv.1 uF
    clear uF
    subst tF
    obtain ⟨pb179,po179,pe179⟩:=PT.ptr rA
    have iG:=L_loadFC (P:=Tryz.prog) (x:=.tmp 55) Tryz.isAgg134 Tryz.sizeOf134 (mp_one r8) yB
    refine L_load (x:=.tmp 5) Tryz.isAgg98 Tryz.sizeOf98 sF fun kI jD jG=>?_
    refine L_loadO0 (x:=.tmp 9) Tryz.isAgg3 Tryz.sizeOf3 y9 fun vK lI kG=>?_
    obtain rfl:=RV_int.1 lI
    refine E_drawL (g:=jI) (n:=6) [] [0,1,2,3,4,5] rfl mixed (by kernel_rfl) trivial ?_
    refine L_ld (c:=up0) rfl rfl .plain (fun _ _ h=>h.ch) hG dF ?_
    refine L_p up0 rfl rfl (P_nilCk rfl pe179) ?_
    refine L_p (fPtr up0 2) rfl rfl (P_fieldAddr at_136_2 rfl (PT.ptr rA)) ?_
    refine L_ld (c:=kv500000) rfl rfl .plain (fun _ _ h=>h.ch) iG rfl ?_
    refine L_ld (c:=kI) rfl rfl .plain (fun _ _ h=>h.ch) jG rF ?_
    refine L_ld (c:=.int .i64 (a9)) rfl rfl .plain (fun _ _ h=>⟨h.ch,fun b hb _=>h.below.block b hb⟩) kG aD ?_
    refine L_nl fun mI xK hs=>?_
    have hfr:=hfr.ext hs
    have hmk:=hmk.ext hs
    have y9:=y9.ext hs
    have r8:=r8.ext hs
    have jD:=jD.ext hs
    clear hs
    refine EL_do .plain rfl (D_mapUpdate (g:=mI) Tryz.underlying134 key_98 rfl r8 (rfl.trans (encK_of pl_98 jD)) rfl (RV_int.2 rfl) fun nI yK hs m197=>?_)
    have hfr:=hfr.stp hs
    have hmk:=hmk.stp hs
    have y9:=y9.stp hs rfl
    refine EL_nil (thn_n (E_seq (E_region (EL_do .plain rfl (D_loadO (g:=nI) Tryz.isAgg3 Tryz.sizeOf3 aD y9 fun zK pI=>?_)))))
    obtain rfl:=RV_int.1 pI
    refine EL_at (.int .i64 (a9)) rfl rfl ?_
    refine EL_nil (thn_n (E_ret (endM (.inr rfl) hmk fun aL bL hs=>?_)))
    have hfr:=hfr.stp hs
    have m197:=m197.stp hs rfl
    obtain rfl:=sinj h
    exact end1 rfl rfl (show _=.int .i64 (a9) from rfl) ⟨_,hfr,rfl,bA.back m197⟩
def f34 (x0:BoxMill) (m0:List (BoxPoint × Int)) (x1:List (List Int)) (x2:BoxPoint):Option (BoxPick × BoxPoint × (List (BoxPoint × Int))):=
 jn (σ:=BoxPick × BoxPoint × (List (BoxPoint × Int))) (fun (nD,oD,dB)=>
  some (nD,oD,dB)
  ) fun mE=>
 (f57 x0 ((x2).race)).bind fun gD=>
 (gD (Nat × BoxPick × BoxPoint × (List (BoxPoint × Int))) (guardC fun (iB,mC,u9) (l9,n9)=>
  (f58 x2 x1 n9).bind fun r8=>
  Option.bind (α:=Bool × (List (BoxPoint × Int))) (
   bif r8.2 then
    (f33 big x0 u9 x1 (r8.1)).bind fun zB=>
    (f33 big x0 (zB.2) x1 x2).bind fun qC=>
    some (((w64 ((n9).moves + zB.1)) == qC.1),qC.2)
   else
    some (false,u9)
   ) fun (y9,x8)=>
  bif y9 then
   some (false,((1:Nat),(l9,r8.1,x8)))
  else
   some (true,((0:Nat),(iB,mC,x8)))
  ) (0,((⟨0,0⟩:BoxPick),(⟨0,0,⟨(⟨List.toArray [(⟨List.toArray [0,0,0,0],rfl⟩:Vector Int 4),(⟨List.toArray [0,0,0,0],rfl⟩:Vector Int 4)],rfl⟩:Vector (Vector Int 4) 2),⟨0,0⟩⟩⟩:BoxPoint),m0))).bind fun (lB,(mB,nB,a9))=>
 bif Nat.beq lB 0 then
  mE (mB,nB,a9)
 else
  some (mB,nB,a9)
theorem en34:Enters Tryz.prog 34:=enters_of Tryz.func34 (by kernel_rfl) rfl
theorem wk34 {iI:Nat} {gI:Gh} {wI:World} {x0:BoxMill} {m0:List (BoxPoint × Int)} {x1:List (List Int)} {x2:BoxPoint} {up0:Value} (rp0:PT gI.m wI x0 up0) {kv500000:Value} (fc0:FC gI.m wI 2 kv500000 up0) (mp500000:MP (encK pl_98) iI gI wI m0 kv500000) {up1:Value} (rp1:RV gI.m wI x1 up1) {up2:Value} (rp2:RV gI.m wI x2 up2) {r:BoxPick × BoxPoint × (List (BoxPoint × Int))} (h:f34 x0 m0 x1 x2=some r):FnM Tryz.prog 34 #[up0,up1,up2] iI gI wI (fun g w v=>(∃ y0 y1,v=.tuple #[y0,y1]∧RV g.m w (r.1) y0∧RV g.m w (r.2.1) y1)∧MP (encK pl_98) iI g w (r.2.2) kv500000):=by
 unfold f34 at h
 refine fnDM_of_E Tryz.func34 rfl (Nat.le_of_ble_eq_true rfl) fun g0 hm hfr=>?_
 have hmk:MkF g0 wI []:=MkF.start
 have oB:=mp500000
 replace mp500000:=mp500000.enter
 rw [← hm] at mp500000
 replace hm:g0.m=gI.m:=by rw [hm]
 have hone500200:=PT.one rp0
 have fc0:FC g0.m wI 2 kv500000 up0:=hm ▸ fc0
 have rp0:PT g0.m wI x0 up0:=hm ▸ rp0
 have rp1:RV g0.m wI x1 up1:=hm ▸ rp1
 have rp2:RV g0.m wI x2 up2:=hm ▸ rp2
 show E _ 44 none _ _ _ _ _
 refine E_seq (E_region (EL_do .plain rfl (D_box (g:=g0) (a:=(⟨up0,hone500200⟩:Fv)) rfl (RV_fv.2 rfl) fun g1 w1 p1 hs q1=>?_)))
 have hfr:=hfr.ext hs
 have hmk:=hmk.ext hs
 have rp0:=rp0.ext hs
 have mp500000:=mp500000.ext hs
 have fc0:=fc0.ext hs
 have rp1:=rp1.ext hs
 have rp2:=rp2.ext hs
 refine EL_do .plain rfl (D_box (g:=g1) rfl rp1 fun g2 w2 p2 hs q2=>?_)
 have hfr:=hfr.ext hs
 have hmk:=hmk.ext hs
 have rp0:=rp0.ext hs
 have mp500000:=mp500000.ext hs
 have fc0:=fc0.ext hs
 have rp2:=rp2.ext hs
 have q1:=q1.ext hs
 refine EL_do .plain rfl (D_box (g:=g2) rfl rp2 fun g3 w3 p3 hs q3=>?_)
 have hfr:=hfr.ext hs
 have hmk:=hmk.ext hs
 have rp0:=rp0.ext hs
 have mp500000:=mp500000.ext hs
 have fc0:=fc0.ext hs
 have q1:=q1.ext hs
 have q2:=q2.ext hs
 refine EL_do .plain rfl (D_allocOc (g:=g3) 2006 (⟨0,0⟩:BoxPick) Tryz.zeroValue92 (fun m w=>⟨_,(rep_two rep_int rep_int),rfl⟩) fun g4 w4 p4 hs b4 cb=>?_)
 have hfr:=hfr.stp hs
 have hmk:=hmk.stp hs
 have rp0:=rp0.stp hs
 have mp500000:=mp500000.stp hs rfl
 have fc0:=fc0.stp hs
 have q1:=q1.stp hs
 have q2:=q2.stp hs
 have q3:=q3.stp hs
 clear cb
 refine EL_do .plain rfl (D_allocOc (g:=g4) 2007 (⟨0,0,⟨(⟨List.toArray [(⟨List.toArray [0,0,0,0],rfl⟩:Vector Int 4),(⟨List.toArray [0,0,0,0],rfl⟩:Vector Int 4)],rfl⟩:Vector (Vector Int 4) 2),⟨0,0⟩⟩⟩:BoxPoint) Tryz.zeroValue98 (fun m w=>⟨_,(rep_two rep_int (rep_two rep_int (rep_two (rep_vec (flat_chunk (rep_vec (flat_chunk rep_int (flat_chunk rep_int (flat_chunk rep_int (flat_chunk rep_int flat_nil)))) rfl) (flat_chunk (rep_vec (flat_chunk rep_int (flat_chunk rep_int (flat_chunk rep_int (flat_chunk rep_int flat_nil)))) rfl) flat_nil)) rfl) (rep_two rep_int rep_int)))),rfl⟩) fun g5 w5 p5 hs b5 cb=>?_)
 have hfr:=hfr.stp hs
 have hmk:=hmk.stp hs
 have rp0:=rp0.stp hs
 have mp500000:=mp500000.stp hs rfl
 have fc0:=fc0.stp hs
 have q1:=q1.stp hs
 have q2:=q2.stp hs
 have q3:=q3.stp hs
 have b4:=b4.stp hs rfl
 clear cb
 refine EL_nil (thn_n (E_joinCD h (fun (s:BoxPick × BoxPoint × (List (BoxPoint × Int))) e ds w=>∃ (g:Gh) ,FrM iI gI wI g w∧MkF g w ds∧e 6=p4∧OB 2006 g w 92 (s.1:BoxPick) p4∧e 7=p5∧OB 2007 g w 98 (s.2.1:BoxPoint) p5∧MP (encK pl_98) 1 g w (s.2.2:List (BoxPoint × Int)) kv500000∧FC g.m w 2 kv500000 up0∧PT g.m w (x0:BoxMill) up0) (fun X171 mE jG h=>?_) ?_))
 ·refine E_seq (E_region (EL_do .plain rfl (D_load (α := Fv) (g := g5) Tryz.isAgg99 Tryz.sizeOf99 rfl q1 fun oE rE => ?_)))
  have e172:oE=up0:=RV_fv.1 rE
  clear rE
  subst oE
  refine EL_p (fPtr p3 2) (P_fieldAddr at_98_2 rfl (PT.ptr q3)) rfl ?_
  have uH:=PT_field (part_BoxPoint_2).1 q3
  refine EL_do .plain rfl (D_load (g:=g5) Tryz.isAgg94 Tryz.sizeOf94 rfl uH fun xH yH=>?_)
  obtain ⟨gD,kG,h⟩:=bsome h
  refine EL_do .plain rfl (D_call (g:=g5) (vs:=[up0,xH]) en57 (.cons rfl (.cons rfl .nil)) (wk57 rp0 yH kG) fun nK aK tD hs hr=>?_)
  have hfr:=hfr.ext hs
  have hmk:=hmk.ext hs
  have rp0:=rp0.ext hs
  have mp500000:=mp500000.ext hs
  have fc0:=fc0.ext hs
  have q1:=q1.ext hs
  have q2:=q2.ext hs
  have q3:=q3.ext hs
  have b4:=b4.ext hs
  have b5:=b5.ext hs
  have uE:=hr
  refine EL_nil (thn_n (E_block ?_))
  have hB0:=hfr.size
  have hmk0:=hmk
  obtain ⟨⟨lB,⟨mB,nB,a9⟩⟩,hφ,h⟩:=bsome h
  refine E_rangeFunc (σ:=(Nat × BoxPick × BoxPoint × (List (BoxPoint × Int)))) (s0:=(0,((⟨0,0⟩:BoxPick),(⟨0,0,⟨(⟨List.toArray [(⟨List.toArray [0,0,0,0],rfl⟩:Vector Int 4),(⟨List.toArray [0,0,0,0],rfl⟩:Vector Int 4)],rfl⟩:Vector (Vector Int 4) 2),⟨0,0⟩⟩⟩:BoxPoint),m0))) 10 rfl (fun s=>s.1) [.ret] (fun (s:Nat × BoxPick × BoxPoint × (List (BoxPoint × Int))) (g:Gh) (w:World)=>FrM iI gI wI g w∧MkF g w []∧PT g.m w (⟨up0,hone500200⟩:Fv) p1∧PT g.m w (x1:List (List Int)) p2∧PT g.m w (x2:BoxPoint) p3∧OB 2006 g w 92 (s.2.1:BoxPick) p4∧OB 2007 g w 98 (s.2.2.1:BoxPoint) p5∧ItV Tryz.prog (RA2 (α:=BoxPick) (β:=BoxStep)) gD tD g.m w∧MP (encK pl_98) 1 g w (s.2.2.2:List (BoxPoint × Int)) kv500000∧FC g.m w 2 kv500000 up0∧PT g.m w (x0:BoxMill) up0) rfl uE hφ (fun _ _ _ h=>(guardC_h h).1) rfl ra2_size rfl (fun _ _ _ _ _ hx hR=>by obtain ⟨hfr,hmk,z2,z3,z4,z5,z6,z7,z8,z9,z10⟩:=hR; exact ⟨hfr.ist hx hB0,hmk.ist hx,z2.ist hx,z3.ist hx,z4.ist hx,z5.ist hx,z6.ist hx,z7.ist hx,z8.ist hx,z9.ist hx,z10.ist hx⟩) (fun _ _ _ _ _ hx hR=>by obtain ⟨hfr,hmk,z2,z3,z4,z5,z6,z7,z8,z9,z10⟩:=hR; exact ⟨hfr.stp hx,hmk.stp hx,z2.stp hx,z3.stp hx,z4.stp hx,z5.stp hx rfl,z6.stp hx rfl,z7.stp hx,z8.stp hx rfl,z9.stp hx,z10.stp hx⟩) ⟨hfr,hmk,q1,q2,q3,b4,b5,uE,mp500000,fc0,rp0⟩ (fun _ h=>by cases h) ?_ ?_
  ·intro lG vE s x b s2 uD xE vs hsz h hR hrec_0 bE hrd
   obtain ⟨hs0,h⟩:=guardC_h h
   obtain ⟨st,⟨iB,mC,u9⟩⟩:=s
   obtain ⟨hfr,hmk,i6,x5,x6,i7,m7,t5,l5,o0,u3⟩:=hR
   obtain ⟨l9,n9⟩:=x
   obtain ⟨yE,zE,rfl,cC,v8⟩:=ra2_get hrd
   have y6:=RFr.refl uD xE
   refine E_seq (E_region (EL_do .plain rfl (D_allocOc (g:=uD) 2008 (⟨0,0⟩:BoxPick) Tryz.zeroValue92 (fun m w=>⟨_,(rep_two rep_int rep_int),rfl⟩) fun zH oK cF hs b255 cb=>?_)))
   have hfr:=hfr.stp hs
   have hmk:=hmk.stp hs
   have y6:=y6.stp hs
   have hrec_0:=hrec_0.stp hs rfl
   have i6:=i6.stp hs
   have x5:=x5.stp hs
   have x6:=x6.stp hs
   have i7:=i7.stp hs rfl
   have m7:=m7.stp hs rfl
   have t5:=t5.stp hs
   have l5:=l5.stp hs rfl
   have o0:=o0.stp hs
   have u3:=u3.stp hs
   have cC:=cC.stp hs
   have v8:=v8.stp hs
   clear cb
   refine EL_do .plain rfl (D_storeOc (g:=zH) (v:=yE) Tryz.sizeOf92 rfl b255 rfl cC fun aI pK hs b256 cb=>?_)
   clear cb
   have hfr:=hfr.stp hs
   have hmk:=hmk.stp hs
   have y6:=y6.stp hs
   have hrec_0:=hrec_0.stp hs rfl
   have i6:=i6.stp hs
   have x5:=x5.stp hs
   have x6:=x6.stp hs
   have i7:=i7.stp hs rfl
   have m7:=m7.stp hs rfl
   have t5:=t5.stp hs
   have l5:=l5.stp hs rfl
   have o0:=o0.stp hs
   have u3:=u3.stp hs
   have v8:=v8.stp hs
   refine EL_nil (thn_n (E_region (EL_do .plain rfl (D_allocOc (g:=aI) 2009 (⟨⟨(⟨List.toArray [(⟨List.toArray [0,0,0,0],rfl⟩:Vector Int 4),(⟨List.toArray [0,0,0,0],rfl⟩:Vector Int 4)],rfl⟩:Vector (Vector Int 4) 2),⟨0,0⟩⟩,0,0⟩:BoxStep) Tryz.zeroValue141 (fun m w=>⟨_,(rep_two (rep_two (rep_vec (flat_chunk (rep_vec (flat_chunk rep_int (flat_chunk rep_int (flat_chunk rep_int (flat_chunk rep_int flat_nil)))) rfl) (flat_chunk (rep_vec (flat_chunk rep_int (flat_chunk rep_int (flat_chunk rep_int (flat_chunk rep_int flat_nil)))) rfl) flat_nil)) rfl) (rep_two rep_int rep_int)) (rep_two rep_int rep_int)),rfl⟩) fun bI qK dI hs b257 cb=>?_))))
   have hfr:=hfr.stp hs
   have hmk:=hmk.stp hs
   have y6:=y6.stp hs
   have hrec_0:=hrec_0.stp hs rfl
   have i6:=i6.stp hs
   have x5:=x5.stp hs
   have x6:=x6.stp hs
   have i7:=i7.stp hs rfl
   have m7:=m7.stp hs rfl
   have t5:=t5.stp hs
   have l5:=l5.stp hs rfl
   have o0:=o0.stp hs
   have u3:=u3.stp hs
   have v8:=v8.stp hs
   have b256:=b256.stp hs rfl
   clear cb
   refine EL_do .plain rfl (D_storeOc (g:=bI) (v:=zE) Tryz.sizeOf141 rfl b257 rfl v8 fun iD sK hs b258 cb=>?_)
   clear cb
   have hfr:=hfr.stp hs
   have hmk:=hmk.stp hs
   have y6:=y6.stp hs
   have hrec_0:=hrec_0.stp hs rfl
   have i6:=i6.stp hs
   have x5:=x5.stp hs
   have x6:=x6.stp hs
   have i7:=i7.stp hs rfl
   have m7:=m7.stp hs rfl
   have t5:=t5.stp hs
   have l5:=l5.stp hs rfl
   have o0:=o0.stp hs
   have u3:=u3.stp hs
   have b256:=b256.stp hs rfl
   refine EL_nil (thn_n ?_)
   obtain ⟨jI,hbr,hs,hrN⟩:=begin_round hrec_0 bE
   refine ⟨jI,hbr,?_⟩
   have hfr:=hfr.stp hs
   have hmk:=hmk.stp hs
   have y6:=y6.stp hs
   have i6:=i6.stp hs
   have x5:=x5.stp hs
   have x6:=x6.stp hs
   have i7:=i7.stp hs rfl
   have m7:=m7.stp hs rfl
   have t5:=t5.stp hs
   have l5:=l5.stp hs rfl
   have o0:=o0.stp hs
   have u3:=u3.stp hs
   have b256:=b256.stp hs rfl
   have b258:=b258.stp hs rfl
   have hrec_0:=hrN
   clear hbr hs hrN
   refine E_block ?_
   refine E_seq (E_region (EL_do .plain rfl (D_load (g:=iD) Tryz.isAgg98 Tryz.sizeOf98 rfl x6 fun kI lI=>?_)))
   refine EL_do .plain rfl (D_load (g:=iD) Tryz.isAgg87 Tryz.sizeOf87 rfl x5 fun mI nI=>?_)
   refine EL_do .plain rfl (D_loadO (g:=iD) Tryz.isAgg141 Tryz.sizeOf141 rfl b258 fun pI qI=>?_)
   obtain ⟨r8,mG,h⟩:=bsome h
   refine EL_do .plain rfl (D_call (g:=iD) (vs:=[kI,mI,pI]) en58 (.cons rfl (.cons rfl (.cons rfl .nil))) (wk58 lI nI qI mG) fun sI bK tK hs hr=>?_)
   have hfr:=hfr.ext hs
   have hmk:=hmk.ext hs
   have y6:=y6.ext hs
   have hrec_0:=hrec_0.ext hs
   have i6:=i6.ext hs
   have x5:=x5.ext hs
   have x6:=x6.ext hs
   have i7:=i7.ext hs
   have m7:=m7.ext hs
   have t5:=t5.ext hs
   have l5:=l5.ext hs
   have o0:=o0.ext hs
   have u3:=u3.ext hs
   have b256:=b256.ext hs
   have b258:=b258.ext hs
   obtain ⟨rC,oJ,rfl,uC,rfl⟩:=hr
   refine EL_mw (.tuple #[rC,.bool (r8.2)]) rfl rfl ?_
   refine EL_p rC (P_extract rfl rfl) rfl ?_
   refine EL_p (.bool (r8.2)) (P_extract rfl rfl) rfl ?_
   refine EL_do .plain rfl (D_allocOc (g:=sI) 2010 (⟨0,0,⟨(⟨List.toArray [(⟨List.toArray [0,0,0,0],rfl⟩:Vector Int 4),(⟨List.toArray [0,0,0,0],rfl⟩:Vector Int 4)],rfl⟩:Vector (Vector Int 4) 2),⟨0,0⟩⟩⟩:BoxPoint) Tryz.zeroValue98 (fun m w=>⟨_,(rep_two rep_int (rep_two rep_int (rep_two (rep_vec (flat_chunk (rep_vec (flat_chunk rep_int (flat_chunk rep_int (flat_chunk rep_int (flat_chunk rep_int flat_nil)))) rfl) (flat_chunk (rep_vec (flat_chunk rep_int (flat_chunk rep_int (flat_chunk rep_int (flat_chunk rep_int flat_nil)))) rfl) flat_nil)) rfl) (rep_two rep_int rep_int)))),rfl⟩) fun tI uK dF hs b265 cb=>?_)
   have hfr:=hfr.stp hs
   have hmk:=hmk.stp hs
   have y6:=y6.stp hs
   have hrec_0:=hrec_0.stp hs rfl
   have i6:=i6.stp hs
   have x5:=x5.stp hs
   have x6:=x6.stp hs
   have i7:=i7.stp hs rfl
   have m7:=m7.stp hs rfl
   have t5:=t5.stp hs
   have l5:=l5.stp hs rfl
   have o0:=o0.stp hs
   have u3:=u3.stp hs
   have b256:=b256.stp hs rfl
   have b258:=b258.stp hs rfl
   have uC:=uC.stp hs
   clear cb
   refine EL_do .plain rfl (D_storeOc (g:=tI) (v:=rC) Tryz.sizeOf98 rfl b265 rfl uC fun jD eF hs b266 cb=>?_)
   clear cb
   have hfr:=hfr.stp hs
   have hmk:=hmk.stp hs
   have y6:=y6.stp hs
   have hrec_0:=hrec_0.stp hs rfl
   have i6:=i6.stp hs
   have x5:=x5.stp hs
   have x6:=x6.stp hs
   have i7:=i7.stp hs rfl
   have m7:=m7.stp hs rfl
   have t5:=t5.stp hs
   have l5:=l5.stp hs rfl
   have o0:=o0.stp hs
   have u3:=u3.stp hs
   have b256:=b256.stp hs rfl
   have b258:=b258.stp hs rfl
   refine EL_at (.bool (r8.2)) rfl rfl ?_
   refine EL_nil (thn_n ?_)
   obtain ⟨⟨y9,x8⟩,hx,h⟩:=bsome h
   refine E_join (fun e w=>∃ (g:Gh) ,FrM iI gI wI g w∧MkF g w []∧RFr uD xE g w∧HB 10 g w lG (.loop { vE with state:=.busy })∧e 3=p1∧PT g.m w (⟨up0,hone500200⟩:Fv) p1∧e 4=p2∧PT g.m w (x1:List (List Int)) p2∧e 5=p3∧PT g.m w (x2:BoxPoint) p3∧e 6=p4∧OB 2006 g w 92 (iB:BoxPick) p4∧e 7=p5∧OB 2007 g w 98 (mC:BoxPoint) p5∧e 8=cF∧OB 2008 g w 92 (l9:BoxPick) cF∧e 10=dF∧OB 2010 g w 98 (r8.1:BoxPoint) dF∧e 15=tD∧ItV Tryz.prog (RA2 (α:=BoxPick) (β:=BoxStep)) gD tD g.m w∧e 39=.bool (y9)∧MP (encK pl_98) 1 g w (x8:List (BoxPoint × Int)) kv500000∧FC g.m w 2 kv500000 up0∧PT g.m w (x0:BoxMill) up0) (fun Q' hQ=>?_) (fun cK vK hR=>?_)
   ·replace h := hx
    clear hx
    rcases csome h with ⟨g8,h⟩ | ⟨g8,h⟩
    ·refine L_loadO (x := .tmp 27) part_BoxStep_2.1 Tryz.isAgg3 Tryz.sizeOf3 b258 fun xK uI sG => ?_
     obtain rfl:=RV_int.1 uI
     refine L_load (α:=Fv) (x:=.tmp 3) Tryz.isAgg99 Tryz.sizeOf99 i6 fun rF sF xG=>?_
     have e297:rF=up0:=RV_fv.1 sF
     clear sF
     subst rF
     refine L_load (x:=.tmp 4) Tryz.isAgg87 Tryz.sizeOf87 x5 fun tF vD yG=>?_
     refine L_loadO0 (x:=.tmp 10) Tryz.isAgg98 Tryz.sizeOf98 b266 fun uF xD zG=>?_
     obtain ⟨zB,aH,h⟩:=bsome h
     refine L_load (α:=Fv) (x:=.tmp 3) Tryz.isAgg99 Tryz.sizeOf99 i6 fun vF xF cH=>?_
     have e302:vF=up0:=RV_fv.1 xF
     clear xF
     subst vF
     refine L_load (x:=.tmp 4) Tryz.isAgg87 Tryz.sizeOf87 x5 fun yF yD dH=>?_
     refine L_load (x:=.tmp 5) Tryz.isAgg98 Tryz.sizeOf98 x6 fun zF zD gH=>?_
     obtain ⟨qC,iH,h⟩:=bsome h
     refine E_drawC (g:=jD) (w:=eF) (n:=13) [0,1,2,3,4,5,6,8,9,10,11] [2009,2010] [0,1,2,3,4,5,6,7,8,9,10,11,12] rfl mixed (by kernel_rfl) fun w_c293 hs hlt=>?_
     have hfr:=hfr.ext hs
     have hmk:=hmk.ext hs
     have y6:=y6.ext hs
     have hrec_0:=hrec_0.ext hs
     have i6:=i6.ext hs
     have x5:=x5.ext hs
     have x6:=x6.ext hs
     have i7:=i7.ext hs
     have m7:=m7.ext hs
     have t5:=t5.ext hs
     have l5:=l5.ext hs
     have o0:=o0.ext hs
     have u3:=u3.ext hs
     have b256:=b256.ext hs
     have b258:=b258.ext hs
     have b266:=b266.ext hs
     clear hs
     refine CH_pur (c:=.bool (r8.2)) rfl rfl .plain (P_move rfl) ?_
     refine CH_pur (c:=.bool (r8.2)) rfl rfl .plain (P_move rfl) ?_
     refine CH_pur (c:=fPtr dI 11) rfl rfl (.yes2 rfl rfl g8) (P_fieldAddr at_141_2 rfl (OB.ptr b258)) ?_
     refine CH_ldO (n:=2009) (c:=.int .i64 ((n9).moves)) rfl rfl (.yes2 rfl rfl g8) sG rfl rfl ?_
     refine CH_ldP (c:=up0) rfl rfl (.yes2 rfl rfl g8) xG rfl ?_
     refine CH_ldP (c:=tF) rfl rfl (.yes2 rfl rfl g8) yG rfl ?_
     have vD:=vD.ch hlt.1
     refine CH_ldO (n:=2010) (c:=uF) rfl rfl (.yes2 rfl rfl g8) zG rfl rfl ?_
     have xD:=xD.ch hlt.1
     refine CH_do rfl rfl (.yes2 rfl rfl g8) (D_callM (g:=jD) (i:=1) (vs:=[up0,tF,uF]) en33 (.cons rfl (.cons rfl (.cons rfl .nil))) (wk33 big u3 o0 l5 vD xD aH) fun vI dK yK hs hr=>?_)
     obtain ⟨hrv,b300⟩:=hr
     have hfr:=hfr.stp hs
     have hmk:=hmk.stp hs
     have y6:=y6.stp hs
     have hrec_0:=hrec_0.stp hs rfl
     have hlt:=hlt.stp hs
     have i6:=i6.stp hs
     have x5:=x5.stp hs
     have x6:=x6.stp hs
     have i7:=i7.stp hs rfl
     have m7:=m7.stp hs rfl
     have t5:=t5.stp hs
     have o0:=o0.stp hs
     have u3:=u3.stp hs
     have b256:=b256.stp hs rfl
     have b266:=b266.stp hs rfl
     subst hrv
     refine ⟨hlt.toW,?_⟩
     refine CH_pur (c:=.int .i64 ((w64 ((n9).moves + zB.1)))) rfl rfl (.yes2 rfl rfl g8) (P_int rfl rfl rfl) ?_
     refine CH_ldP (c:=up0) rfl rfl (.yes2 rfl rfl g8) cH rfl ?_
     refine CH_ldP (c:=yF) rfl rfl (.yes2 rfl rfl g8) dH rfl ?_
     have yD:=yD.ch hlt.1
     refine CH_ldP (c:=zF) rfl rfl (.yes2 rfl rfl g8) gH rfl ?_
     have zD:=zD.ch hlt.1
     refine CH_do rfl rfl (.yes2 rfl rfl g8) (D_callM (g:=vI) (i:=1) (vs:=[up0,yF,zF]) en33 (.cons rfl (.cons rfl (.cons rfl .nil))) (wk33 big u3 o0 b300 yD zD iH) fun yI lK zK hs hr=>?_)
     obtain ⟨hrv,b305⟩:=hr
     have hfr:=hfr.stp hs
     have hmk:=hmk.stp hs
     have y6:=y6.stp hs
     have hrec_0:=hrec_0.stp hs rfl
     have hlt:=hlt.stp hs
     have i6:=i6.stp hs
     have x5:=x5.stp hs
     have x6:=x6.stp hs
     have i7:=i7.stp hs rfl
     have m7:=m7.stp hs rfl
     have t5:=t5.stp hs
     have o0:=o0.stp hs
     have u3:=u3.stp hs
     have b256:=b256.stp hs rfl
     have b266:=b266.stp hs rfl
     subst hrv
     refine ⟨hlt.toW,?_⟩
     refine CH_nil ?_
     clear hlt
     refine EL_y (.bool (((w64 ((n9).moves + zB.1)) == qC.1))) (P_int rfl rfl rfl) rfl rfl g8 rfl ?_
     refine EL_p (.bool (((w64 ((n9).moves + zB.1)) == qC.1))) (P_pick (b:=r8.2) rfl (pick_t g8 rfl)) rfl ?_
     refine EL_nil ?_
     obtain ⟨rfl,rfl⟩:=pairs2 h
     exact hQ _ _ ⟨yI,hfr,hmk,y6,hrec_0,rfl,i6,rfl,x5,rfl,x6,rfl,i7,rfl,m7,rfl,b256,rfl,b266,rfl,t5,rfl,b305,o0,u3⟩
    ·refine E_drawC (g := jD) (w := eF) (n := 13) [0, 1, 2, 3, 4, 5, 6, 7, 8, 9, 10, 11, 12] [] [0, 1, 2, 3, 4, 5, 6, 7, 8, 9, 10, 11, 12] rfl mixed (by kernel_rfl) fun w_c293 hs hlt => ?_
     have hfr:=hfr.ext hs
     have hmk:=hmk.ext hs
     have y6:=y6.ext hs
     have hrec_0:=hrec_0.ext hs
     have i6:=i6.ext hs
     have x5:=x5.ext hs
     have x6:=x6.ext hs
     have i7:=i7.ext hs
     have m7:=m7.ext hs
     have t5:=t5.ext hs
     have l5:=l5.ext hs
     have o0:=o0.ext hs
     have u3:=u3.ext hs
     have b256:=b256.ext hs
     have b266:=b266.ext hs
     clear hs
     refine CH_pur (c:=.bool (r8.2)) rfl rfl .plain (P_move rfl) ?_
     refine CH_pur (c:=.bool (r8.2)) rfl rfl .plain (P_move rfl) ?_
     iterate 11 refine CH_skip rfl (.no2 rfl rfl g8 rfl) ?_
     refine CH_nil ?_
     clear hlt
     refine EL_s rfl rfl g8 rfl rfl ?_
     refine EL_p (.bool false) (P_pick (b:=r8.2) rfl (pick_f g8 rfl)) rfl ?_
     refine EL_nil ?_
     obtain ⟨rfl,rfl⟩:=pairs2 h
     exact hQ _ _ ⟨jD,hfr,hmk,y6,hrec_0,rfl,i6,rfl,x5,rfl,x6,rfl,i7,rfl,m7,rfl,b256,rfl,b266,rfl,t5,rfl,l5,o0,u3⟩
   ·clear hx
    obtain ⟨aL,hfr,hmk,y6,hrec_0,pJ,bA,qJ,iA,rJ,rA,aG,sD,bG,tB,cG,eG,iE,lE,mJ,k9,eD,m8,k8,l8⟩:=hR
    rcases csome h with ⟨lD,h⟩ | ⟨lD,h⟩
    ·refine E_cond_true (Eq.trans (show ev _ _ = .bool (y9) from eD) (congrArg Value.bool lD)) ?_
     refine E_seq (L_loadO0 (x:=.tmp 8) Tryz.isAgg92 Tryz.sizeOf92 eG fun zI eJ jH=>?_)
     refine L_loadO0 (x:=.tmp 10) Tryz.isAgg98 Tryz.sizeOf98 lE fun gG aE kH=>?_
     refine E_drawB (a0:=(iB:BoxPick)) (a1:=(l9:BoxPick)) sD (n:=3) [(2,(fun _ g w=>OB 2006 g w 92 (l9:BoxPick) p4))] [0,1,2] rfl mixed (by kernel_rfl) (⟨fun _=>up_box,trivial⟩) ?_
     refine L_ld (c:=zI) rfl rfl .plain (fun _ _ h=>⟨h.1.ch,fun b hb ho=>h.1.block b hb (by rw [ho]; decide)⟩) jH cG ?_
     refine L_ld (c:=gG) rfl rfl .plain (fun _ _ h=>⟨h.1.ch,fun b hb ho=>h.1.block b hb (by rw [ho]; decide)⟩) kH iE ?_
     refine L_do (φ:=fun _ g w=>OB 2006 g w 92 (l9:BoxPick) p4) rfl rfl .plain (fun g w hd=>D_storeR0 (g:=g) Tryz.sizeOf92 aG hd.1.2 rfl (eJ.stp hd.1.1)) (fun bL hv=>?_)
     clear hv
     refine L_nil fun gJ dL hall=>?_
     have hs:=hall.1.1
     have hfr:=hfr.stp hs
     have hmk:=hmk.stp hs
     have y6:=y6.stp hs
     have hrec_0:=hrec_0.stp hs rfl
     have bA:=bA.stp hs
     have iA:=iA.stp hs
     have rA:=rA.stp hs
     have tB:=tB.stp hs rfl
     have k9:=k9.stp hs
     have m8:=m8.stp hs rfl
     have k8:=k8.stp hs
     have l8:=l8.stp hs
     have aE:=aE.stp hs
     have b319:=(word_all (A:=fun g w=>OB 2006 g w 92 (l9:BoxPick) p4) 2 rfl hall)
     clear hs hall
     refine EL_do .plain rfl (D_storeOc (g:=gJ) (v:=gG) Tryz.sizeOf98 bG tB rfl aE fun eL gL hs b330 cb=>?_)
     clear cb
     have hfr:=hfr.stp hs
     have hmk:=hmk.stp hs
     have y6:=y6.stp hs
     have hrec_0:=hrec_0.stp hs rfl
     have bA:=bA.stp hs
     have iA:=iA.stp hs
     have rA:=rA.stp hs
     have b319:=b319.stp hs rfl
     have k9:=k9.stp hs
     have m8:=m8.stp hs rfl
     have k8:=k8.stp hs
     have l8:=l8.stp hs
     refine EL_nil (thn_n (E_ret (blk_r ?_)))
     obtain ⟨rfl,rfl⟩:=pairs2 h
     exact ⟨_,y6,⟨hfr,hmk,bA,iA,rA,b319,b330,k9,m8,k8,l8⟩,hrec_0,rfl,0,rfl,rfl⟩
    ·refine E_cond_false (Eq.trans (show ev _ _ = .bool (y9) from eD) (congrArg Value.bool lD)) ?_
     refine E_skip (blk_n ?_)
     obtain ⟨rfl,rfl⟩:=pairs2 h
     exact ⟨_,y6,⟨hfr,hmk,bA,iA,rA,sD,tB,k9,m8,k8,l8⟩,hrec_0,rfl,rfl⟩
  ·intro iJ iL ds332 hsz hR hds
   obtain ⟨hfr,hmk,sJ,vJ,xJ,vB,yB,nJ,d9,vC,aD⟩:=hR
   obtain ⟨D,hdse,hD,hDb⟩:=hds.1 rfl
   subst hdse
   replace hmk:=MkF.push hmk0 hmk hD hDb
   clear hD hDb hds
   revert hmk
   generalize ({ target:=.collected D,args:=#[] } :: []:List Deferred)=yJ
   intro hmk
   refine ⟨fun hs=>?_,fun k c hs hc=>?_⟩
   ·have hs : lB = 0 := hs
    subst hs
    replace h:=cond_t h rfl
    exact blk_n (thn_n (jG (mB,nB,a9) _ _ _ ⟨iJ,hfr,hmk,rfl,vB,rfl,yB,d9,vC,aD⟩ h))
   ·have hs : lB = k + 1 := hs
    match k,hs,hc with
    | 0,hs,hc=>
     subst hs
     obtain rfl:=sinj hc
     replace h:=cond_f h rfl
     refine E_ret (blk_r ?_)
     refine thn_r ?_
     refine endM (.inr rfl) hmk fun jL lL hs=>?_
     have hfr:=hfr.stp hs
     have vB:=vB.stp hs rfl
     have yB:=yB.stp hs rfl
     have d9:=d9.stp hs rfl
     obtain rfl:=sinj h
     obtain ⟨ad334,cv334,hp334,lH,cr334⟩:=ob_read Tryz.isAgg92 Tryz.sizeOf92 vB
     obtain ⟨ad335,cv335,hp335,mH,cr335⟩:=ob_read Tryz.isAgg98 Tryz.sizeOf98 yB
     exact endm_cc rfl rfl ((show _=p4 from rfl).trans hp334) lH ((show _=p5 from rfl).trans hp335) mH ⟨_,hfr,⟨_,_,rfl,cr334,cr335⟩,oB.back d9⟩
    | n + 1,_,hc=>exact absurd hc (by simp)
 ·rintro ⟨nD, oD, dB⟩ mK zJ mL ⟨jJ, hfr, hmk, bD, yA, cD, aB, n8, hG, iG⟩ h
  refine E_seq (L_selfO Tryz.isAgg92 Tryz.sizeOf92 rfl yA fun kJ nH oH=>?_)
  refine L_selfO Tryz.isAgg98 Tryz.sizeOf98 rfl aB fun lJ pH qH=>?_
  refine E_drawL (g:=jJ) (n:=4) [(2,(fun _ _ _=>True)),(3,(fun _ _ _=>True))] [0,1,2,3] rfl mixed (by kernel_rfl) (⟨fun _=>(fun _ _ _ _ _ _=>trivial),fun _=>(fun _ _ _ _ _ _=>trivial),trivial⟩) ?_
  refine L_ld (c:=kJ) rfl rfl .plain (fun _ _ h=>⟨h.ch,fun b hb _=>h.below.block b hb⟩) (nH _) bD ?_
  refine L_ld (c:=lJ) rfl rfl .plain (fun _ _ h=>⟨h.ch,fun b hb _=>h.below.block b hb⟩) (pH _) cD ?_
  refine L_do (φ:=fun _ _ _=>True) rfl rfl .plain (fun g w hd=>oH _ _ _ g w ⟨hd.1.ch,fun b hb _=>hd.1.below.block b hb⟩ bD rfl) (fun nL hv=>?_)
  clear hv
  refine L_do (φ:=fun _ _ _=>True) rfl rfl .plain (fun g w hd=>qH _ _ _ g w ⟨hd.1.ch,fun b hb _=>hd.1.below.block b hb⟩ cD rfl) (fun oL hv=>?_)
  clear hv
  refine L_nl fun pL qL hs=>?_
  have hfr:=hfr.ext hs
  have hmk:=hmk.ext hs
  have yA:=yA.ext hs
  have aB:=aB.ext hs
  have n8:=n8.ext hs
  clear hs
  refine EL_nil (thn_n (E_ret (endM (.inr rfl) hmk fun rL tL hs=>?_)))
  have hfr:=hfr.stp hs
  have yA:=yA.stp hs rfl
  have aB:=aB.stp hs rfl
  have n8:=n8.stp hs rfl
  obtain rfl:=sinj h
  obtain ⟨ad350,cv350,hp350,sH,cr350⟩:=ob_read Tryz.isAgg92 Tryz.sizeOf92 yA
  obtain ⟨ad351,cv351,hp351,tH,cr351⟩:=ob_read Tryz.isAgg98 Tryz.sizeOf98 aB
  exact endm_cc rfl rfl ((show _=p4 from bD).trans hp350) sH ((show _=p5 from cD).trans hp351) tH ⟨_,hfr,⟨_,_,rfl,cr350,cr351⟩,oB.back n8⟩
def f41 (x0:BoxLoom):Option ((List Int) × Int):=
 (f27 x0).bind fun y4=>
 jn (σ:=Unit) (fun _=>
  Option.bind (α:=(List (Int × Bool))) (
   (f32 (y4.1)).bind fun d9=>
   (f30 (y4.1) ((fun a0 a1=>f31 a0 a1))).bind fun y55=>
   (f57 d9 y55).bind fun l9=>
   (l9 ((List (Int × Bool))) (fun m8 (yA,n8)=>
    some (true,((mset m8 ((n8).colour) true)))
    ) (([]:List (Int × Bool)))).bind fun r8=>
   some (r8)
   ) fun m7=>
  (keysS m7).bind fun y81=>
  some (y81,(0:Int))
  ) fun k9=>
 bif (y4.2 != (0 : Int)) then
  some ([],y4.2)
 else
  k9 ()
theorem en41:Enters Tryz.prog 41:=enters_of Tryz.func41 (by kernel_rfl) rfl
theorem wk41 {gI:Gh} {wI:World} {x0:BoxLoom} {up0:Value} (rp0:RV gI.m wI x0 up0) {r:(List Int) × Int} (h:f41 x0=some r):Fn Tryz.prog 41 #[up0] gI wI (fun m w v=>∃ y0 y1,v=.tuple #[y0,y1]∧RV m w (r.1) y0∧y1=.int .i64 (r.2)):=by
 unfold f41 at h
 refine fnD_of_E Tryz.func41 rfl (Nat.le_of_ble_eq_true rfl) fun g0 hm hfr=>?_
 have hmk:MkF g0 wI []:=MkF.start
 have rp0:RV g0.m wI x0 up0:=hm ▸ rp0
 show E _ 31 none _ _ _ _ _
 refine E_seq (E_region (EL_do .plain rfl (D_box (g:=g0) rfl rp0 fun g1 w1 p1 hs q1=>?_)))
 have hfr:=hfr.ext hs
 have hmk:=hmk.ext hs
 refine EL_at (.slice none 0 0) rfl rfl ?_
 refine EL_at (.int .i64 (0)) rfl rfl ?_
 refine EL_nil (thn_n (E_seq (E_region (EL_do .plain rfl (D_load (g:=g1) Tryz.isAgg33 Tryz.sizeOf33 rfl q1 fun v2 r2=>?_)))))
 obtain ⟨y4,nD,h⟩:=bsome h
 refine EL_do .plain rfl (D_call (g:=g1) (vs:=[v2]) en27 (.cons rfl .nil) (wk27 r2 nD) fun g3 w3_ v3 hs hr=>?_)
 have hfr:=hfr.ext hs
 have hmk:=hmk.ext hs
 obtain ⟨g8,sF,rfl,k8,rfl⟩:=hr
 refine EL_mw (.tuple #[g8,.int .i64 (y4.2)]) rfl rfl ?_
 refine EL_p g8 (P_extract rfl rfl) rfl ?_
 refine EL_p (.int .i64 (y4.2)) (P_extract rfl rfl) rfl ?_
 refine EL_do .plain rfl (D_allocOc (g:=g3) 2004 (⟨⟨[],[],[]⟩⟩:BoxBoxLoom) Tryz.zeroValue83 (fun m w=>⟨_,(rep_two rep_nil (rep_two rep_nil rep_nil)),rfl⟩) fun g5 w5 p5 hs b5 cb=>?_)
 have hfr:=hfr.stp hs
 have hmk:=hmk.stp hs
 have k8:=k8.stp hs
 have tF:OSF 2004 60400 0 g5 w5 3 83 ([]:List Int) p5:=cb.osf (by rfl)
 have uF:OSF 2004 60401 1 g5 w5 3 83 ([]:List Int) p5:=cb.osf (by rfl)
 have vF:OSF 2004 60402 2 g5 w5 65 83 ([]:List BoxShuttle) p5:=cb.osf (by rfl)
 clear cb
 refine EL_do .plain rfl (D_storeOc (g:=g5) (v:=g8) Tryz.sizeOf83 rfl b5 rfl k8 fun g6 w6 hs b6 cb=>?_)
 clear cb
 have hfr:=hfr.stp hs
 have hmk:=hmk.stp hs
 refine EL_at (.int .i64 (y4.2)) rfl rfl ?_
 refine EL_nil (thn_n (E_joinCD h (fun (s:Unit) e ds w=>∃ (g:Gh) ,Fr gI wI g w∧MkF g w ds∧e 4=p5∧OB 2004 g w 83 (y4.1:BoxBoxLoom) p5) (fun X9 k9 oD h=>?_) ?_))
 ·refine E_seq (E_region (EL_mw (.int .i64 (y4.2)) rfl rfl ?_))
  refine EL_in (.bool ((y4.2 != (0:Int)))) rfl rfl rfl rfl ?_
  refine EL_nil (thn_n ?_)
  rcases csome h with ⟨l8,h⟩ | ⟨l8,h⟩
  ·refine E_ct l8 rfl ?_
   refine E_seq (E_region (EL_mw (.int .i64 (y4.2)) rfl rfl ?_))
   refine EL_at (.slice none 0 0) rfl rfl ?_
   refine EL_at (.int .i64 (y4.2)) rfl rfl ?_
   refine EL_nil (thn_n (E_ret (thn_r ?_)))
   refine endM (.inr rfl) hmk fun eG gG hs=>?_
   have hfr:=hfr.stp hs
   obtain rfl:=sinj h
   exact end2 rfl rfl (show _=.slice none 0 0 from rfl) (show _=.int .i64 (y4.2) from rfl) ⟨_,hfr,_,_,rfl,RV_nil,rfl⟩
  ·refine E_cf l8 rfl ?_
   exact E_skip (thn_n (oD () _ _ _ ⟨g6,hfr,hmk,rfl,b6⟩ h))
 ·rintro _ xF v8 hG ⟨sD, hfr, hmk, x8, x5⟩ h
  refine E_seq (E_region (EL_do .plain rfl (D_makeMap (g:=sD) (Value.int .i64) Bool 8017 fun tD iG oB hs m13=>?_)))
  have hfr:=hfr.stp hs
  have hmk:=hmk.stp hs
  have x5:=x5.stp hs rfl
  refine EL_do .plain rfl (D_allocOc (g:=tD) 2006 (⟨.map none,rfl⟩:Fv) Tryz.zeroValue149 (fun _ _=>fvm_rep) fun uD jG n9 hs b14 cb=>?_)
  clear cb
  have hfr:=hfr.stp hs
  have hmk:=hmk.stp hs
  have x5:=x5.stp hs rfl
  have m13:=m13.stp hs rfl
  have on15:=mp_one m13
  refine EL_do .plain rfl (D_storeOc (g:=uD) (v:=oB) (a':=(⟨oB,on15⟩:Fv)) Tryz.sizeOf149 rfl b14 rfl (RV_fv.2 rfl) fun tB w15 hs b15 cb=>?_)
  clear cb
  have hfr:=hfr.stp hs
  have hmk:=hmk.stp hs
  have x5:=x5.stp hs rfl
  have m13:=m13.stp hs rfl
  refine EL_nil (thn_n ?_)
  obtain ⟨m7,hx,h⟩:=bsome h
  refine E_joinD (fun e ds w=>∃ (g:Gh) ,Fr gI wI g w∧MkF g w ds∧e 6=n9∧BM (Value.int .i64) 2006 8017 g w 149 (m7:List (Int × Bool)) n9) (fun Q' hQ=>?_) (fun yF zE kG hR=>?_)
  ·replace h := hx
   clear hx
   refine E_seq (L_loadO0 (x:=.tmp 4) Tryz.isAgg83 Tryz.sizeOf83 x5 fun vB u9 cD=>?_)
   obtain ⟨d9,eD,h⟩:=bsome h
   refine L_loadO0 (x:=.tmp 4) Tryz.isAgg83 Tryz.sizeOf83 x5 fun yB y9 gD=>?_
   refine E_drawC (g:=tB) (w:=w15) (n:=3) [0,2] [2004] [0,1,2] rfl mixed (by kernel_rfl) fun w_c49 hs hlt=>?_
   have hfr:=hfr.ext hs
   have hmk:=hmk.ext hs
   have b15:=b15.ext hs
   have m13:=m13.ext hs
   clear hs
   refine CH_ldO (n:=2004) (c:=vB) rfl rfl .plain cD x8 rfl ?_
   have u9:=u9.ch hlt.1
   refine CH_do rfl rfl .plain (D_call (g:=tB) (vs:=[vB]) en32 (.cons rfl .nil) (wk32 u9 eD) fun vD zF zB hs hr=>?_)
   have hfr:=hfr.ext hs
   have hmk:=hmk.ext hs
   have hlt:=hlt.ext hs
   have b15:=b15.ext hs
   have m13:=m13.ext hs
   have y6:=hr
   have hone500219:=PT.one y6
   refine ⟨hlt.toW,?_⟩
   refine CH_ldO (n:=2004) (c:=yB) rfl rfl .plain gD x8 rfl ?_
   have y9:=y9.ch hlt.1
   refine CH_nil ?_
   clear hlt
   obtain ⟨y55,iD,h⟩:=bsome h
   refine EL_do .plain rfl (D_call (g:=vD) (vs:=[yB,.func (.func 31) #[] #[]]) en30 (.cons rfl (.cons rfl .nil)) (wk30 y9 ⟨31,#[],#[],rfl,en31,fun g' w' hch a0 a1 b0 b1 r hu0 hu1 hr=>by obtain rfl:=RV_int.1 hu0; exact Fn.mono (wk31 hu1  hr) fun _ _ _ h=>RV_int.2 h⟩ iD) fun xD aG yD hs hr=>?_)
   have hfr:=hfr.ext hs
   have hmk:=hmk.ext hs
   have b15:=b15.ext hs
   have m13:=m13.ext hs
   have y6:=y6.ext hs
   have zD:=hr
   obtain ⟨l9,jD,h⟩:=bsome h
   refine EL_do .plain rfl (D_call (g:=xD) (vs:=[zB,yD]) en57 (.cons rfl (.cons rfl .nil)) (wk57 y6 zD jD) fun lG bG aE hs hr=>?_)
   have hfr:=hfr.ext hs
   have hmk:=hmk.ext hs
   have b15:=b15.ext hs
   have m13:=m13.ext hs
   have y6:=y6.ext hs
   have cC:=hr
   refine EL_nil (thn_n (E_block ?_))
   have hB0:=hfr.size
   have hmk0:=hmk
   obtain ⟨r8,hφ,h⟩:=bsome h
   refine E_rangeFunc (σ:=((List (Int × Bool)))) (s0:=(([]:List (Int × Bool)))) 10 rfl (fun _=>0) [] (fun (s:(List (Int × Bool))) (g:Gh) (w:World)=>Fr gI wI g w∧MkF g w v8∧BM (Value.int .i64) 2006 8017 g w 149 (s:List (Int × Bool)) n9∧ItV Tryz.prog (RA2 (α:=BoxPick) (β:=BoxStep)) l9 aE g.m w∧PT g.m w (d9:BoxMill) zB) rfl cC hφ (fun _ _ _ _=>rfl) rfl ra2_size rfl (fun _ _ _ _ _ hx hR=>by obtain ⟨hfr,hmk,z2,z3,z4⟩:=hR; exact ⟨hfr.ist hx hB0,hmk.ist hx,z2.ist hx,z3.ist hx,z4.ist hx⟩) (fun _ _ _ _ _ hx hR=>by obtain ⟨hfr,hmk,z2,z3,z4⟩:=hR; exact ⟨hfr.stp hx,hmk.stp hx,z2.stp hx rfl,z3.stp hx,z4.stp hx⟩) ⟨hfr,hmk,⟨_,b15,m13⟩,cC,y6⟩ (fun _ h=>by cases h) ?_ ?_
   ·intro cG cF s x b s2 mC bE vs hsz h hR hrec_0 z9 hrd
    obtain ⟨m8,hse⟩:∃ y,y=s:=⟨s,rfl⟩
    subst hse
    obtain ⟨hfr,hmk,⟨aB,l5,i6⟩,u3,o0⟩:=hR
    obtain ⟨yA,n8⟩:=x
    obtain ⟨dF,dB,rfl,iE,i7⟩:=ra2_get hrd
    have t5:=RFr.refl mC bE
    refine E_region (EL_do .plain rfl (D_allocOc (g:=mC) 2008 (⟨⟨(⟨List.toArray [(⟨List.toArray [0,0,0,0],rfl⟩:Vector Int 4),(⟨List.toArray [0,0,0,0],rfl⟩:Vector Int 4)],rfl⟩:Vector (Vector Int 4) 2),⟨0,0⟩⟩,0,0⟩:BoxStep) Tryz.zeroValue141 (fun m w=>⟨_,(rep_two (rep_two (rep_vec (flat_chunk (rep_vec (flat_chunk rep_int (flat_chunk rep_int (flat_chunk rep_int (flat_chunk rep_int flat_nil)))) rfl) (flat_chunk (rep_vec (flat_chunk rep_int (flat_chunk rep_int (flat_chunk rep_int (flat_chunk rep_int flat_nil)))) rfl) flat_nil)) rfl) (rep_two rep_int rep_int)) (rep_two rep_int rep_int)),rfl⟩) fun lE mG mE hs b68 cb=>?_))
    have hfr:=hfr.stp hs
    have hmk:=hmk.stp hs
    have t5:=t5.stp hs
    have hrec_0:=hrec_0.stp hs rfl
    have l5:=l5.stp hs rfl
    have i6:=i6.stp hs rfl
    have u3:=u3.stp hs
    have o0:=o0.stp hs
    have i7:=i7.stp hs
    clear cb
    refine EL_do .plain rfl (D_storeOc (g:=lE) (v:=dB) Tryz.sizeOf141 rfl b68 rfl i7 fun bA sG hs b69 cb=>?_)
    clear cb
    have hfr:=hfr.stp hs
    have hmk:=hmk.stp hs
    have t5:=t5.stp hs
    have hrec_0:=hrec_0.stp hs rfl
    have l5:=l5.stp hs rfl
    have i6:=i6.stp hs rfl
    have u3:=u3.stp hs
    have o0:=o0.stp hs
    refine EL_nil (thn_n ?_)
    obtain ⟨oE,hbr,hs,hrN⟩:=begin_round hrec_0 z9
    refine ⟨oE,hbr,?_⟩
    have hfr:=hfr.stp hs
    have hmk:=hmk.stp hs
    have t5:=t5.stp hs
    have l5:=l5.stp hs rfl
    have i6:=i6.stp hs rfl
    have u3:=u3.stp hs
    have o0:=o0.stp hs
    have b69:=b69.stp hs rfl
    have hrec_0:=hrN
    clear hbr hs hrN
    refine E_block ?_
    refine E_region (EL_do .plain rfl (D_loadO (α:=Fv) (g:=bA) Tryz.isAgg149 Tryz.sizeOf149 rfl l5 fun qC rC=>?_))
    have e71:qC=aB.v:=RV_fv.1 rC
    clear rC
    subst qC
    refine EL_p (fPtr mE 10) (P_fieldAddr at_141_1 rfl (OB.ptr b69)) rfl ?_
    refine EL_do .plain rfl (D_loadF (g:=bA) part_BoxStep_1.1 Tryz.isAgg3 Tryz.sizeOf3 rfl b69 fun xG rE=>?_)
    obtain rfl:=RV_int.1 rE
    refine EL_do .plain rfl (D_mapUpdate (g:=bA) Tryz.underlying149 key_3 rfl i6 rfl rfl (RV_bool.2 rfl) fun yG zG hs m74=>?_)
    have hfr:=hfr.stp hs
    have hmk:=hmk.stp hs
    have t5:=t5.stp hs
    have hrec_0:=hrec_0.stp hs rfl
    have l5:=l5.stp hs rfl
    have u3:=u3.stp hs
    have o0:=o0.stp hs
    refine EL_nil (blk_n ?_)
    obtain ⟨rfl,rfl⟩:=pairs2 h
    exact ⟨_,t5,⟨hfr,hmk,⟨_,l5,m74⟩,u3,o0⟩,hrec_0,rfl,rfl⟩
   ·intro uE aH ds76 hsz hR hds
    obtain ⟨hfr,hmk,⟨eF,iB,lB⟩,vE,rA⟩:=hR
    obtain ⟨D,hdse,hD,hDb⟩:=hds.1 rfl
    subst hdse
    replace hmk:=MkF.push hmk0 hmk hD hDb
    clear hD hDb hds
    revert hmk
    generalize ({ target:=.collected D,args:=#[] } :: v8:List Deferred)=rF
    intro hmk
    refine ⟨fun _=>?_,fun k c hs _=>absurd hs (Nat.succ_ne_zero k).symm⟩
    refine blk_n ?_
    obtain rfl:=sinj h
    exact hQ _ _ _ ⟨uE,hfr,hmk,rfl,⟨_,iB,lB⟩⟩
  ·clear hx
   obtain ⟨uC,hfr,hmk,mB,⟨a9,nB,x6⟩⟩:=hR
   refine E_seq (E_region (EL_do .plain rfl (D_loadO (α:=Fv) (g:=uC) Tryz.isAgg149 Tryz.sizeOf149 mB nB fun vC aD=>?_)))
   have e78:vC=a9.v:=RV_fv.1 aD
   clear aD
   subst vC
   refine EL_do .plain rfl (D_callG (g:=uC) (vs:=[a9.v]) en65 (.cons rfl .nil) (keys_fnG Tryz.keys_ok x6) fun xE cH yE hs m79=>?_)
   have hfr:=hfr.ext hs
   have hmk:=hmk.ext hs
   have x6:=x6.ext hs
   obtain ⟨y81,lD,h⟩:=bsome h
   refine EL_do .plain rfl (D_callG (g:=xE) (vs:=[yE]) en64 (.cons rfl .nil) (sorted_fnG Tryz.underlying3 Tryz.sorted_ok x6 m79 lD) fun dH gH bD hs iA=>?_)
   have hfr:=hfr.ext hs
   have hmk:=hmk.ext hs
   refine EL_at bD rfl rfl ?_
   refine EL_at (.int .i64 (0)) rfl rfl ?_
   refine EL_nil (thn_n (E_ret (endM (.inr rfl) hmk fun iH jH hs=>?_)))
   have hfr:=hfr.stp hs
   have iA:=iA.stp hs
   obtain rfl:=sinj h
   exact end2 rfl rfl (show _=bD from rfl) (show _=.int .i64 (0) from rfl) ⟨_,hfr,_,_,rfl,iA,rfl⟩
def f59 (x0:BoxLoom) (x1:List BoxPick):Option (BoxBoxLoom × Int):=
 (f27 x0).bind fun y5=>
 jn (σ:=BoxBoxLoom) (fun k8=>
  some (y5.1,(0:Int))
  ) fun r8=>
 bif (y5.2 != (0 : Int)) then
  some (y5.1,y5.2)
 else
  bif (decide (((x1).length : Int) > (24 : Int))) then
   some (y5.1,(5:Int))
  else
   (f78 x1 ((fun a0=>f77 a0 (y5.1)))).bind fun m7=>
   bif m7 then
    some (y5.1,(2:Int))
   else
    r8 ((⟨⟨[],[],[]⟩⟩:BoxBoxLoom))
theorem en59:Enters Tryz.prog 59:=enters_of Tryz.func59 (by kernel_rfl) rfl
theorem wk59 {gI:Gh} {wI:World} {x0:BoxLoom} {x1:List BoxPick} {up0:Value} (rp0:RV gI.m wI x0 up0) {up1:Value} (rp1:RV gI.m wI x1 up1) {r:BoxBoxLoom × Int} (h:f59 x0 x1=some r):Fn Tryz.prog 59 #[up0,up1] gI wI (fun m w v=>∃ y0 y1,v=.tuple #[y0,y1]∧RV m w (r.1) y0∧y1=.int .i64 (r.2)):=by
 unfold f59 at h
 refine fn_of_E Tryz.func59 rfl (Nat.le_of_ble_eq_true rfl) fun g0 hm hfr=>?_
 have rp0:RV g0.m wI x0 up0:=hm ▸ rp0
 have rp1:RV g0.m wI x1 up1:=hm ▸ rp1
 show E _ 31 none _ _ _ _ _
 refine E_seq (E_region (EL_do .plain rfl (D_box (g:=g0) rfl rp0 fun g1 w1 p1 hs q1=>?_)))
 have hfr:=hfr.ext hs
 have rp1:=rp1.ext hs
 refine EL_do .plain rfl (D_allocOc (g:=g1) 2004 (⟨⟨[],[],[]⟩⟩:BoxBoxLoom) Tryz.zeroValue83 (fun m w=>⟨_,(rep_two rep_nil (rep_two rep_nil rep_nil)),rfl⟩) fun g2 w2 p2 hs b2 cb=>?_)
 have hfr:=hfr.stp hs
 have rp1:=rp1.stp hs
 have q1:=q1.stp hs
 have o0:OSF 2004 60400 0 g2 w2 3 83 ([]:List Int) p2:=cb.osf (by rfl)
 have u3:OSF 2004 60401 1 g2 w2 3 83 ([]:List Int) p2:=cb.osf (by rfl)
 have l5:OSF 2004 60402 2 g2 w2 65 83 ([]:List BoxShuttle) p2:=cb.osf (by rfl)
 clear cb
 refine EL_at (.int .i64 (0)) rfl rfl ?_
 refine EL_nil (thn_n (E_seq (E_region (EL_do .plain rfl (D_load (g:=g2) Tryz.isAgg33 Tryz.sizeOf33 rfl q1 fun v3 r3=>?_)))))
 obtain ⟨y5,hy5,h⟩:=bsome h
 refine EL_do .plain rfl (D_call (g:=g2) (vs:=[v3]) en27 (.cons rfl .nil) (wk27 r3 hy5) fun g4 w4_ v4 hs hr=>?_)
 have hfr:=hfr.ext hs
 have rp1:=rp1.ext hs
 have o0:=o0.ext hs
 have u3:=u3.ext hs
 have l5:=l5.ext hs
 have b2:=b2.ext hs
 obtain ⟨t5,dB,rfl,x5,rfl⟩:=hr
 refine EL_mw (.tuple #[t5,.int .i64 (y5.2)]) rfl rfl ?_
 refine EL_p t5 (P_extract rfl rfl) rfl ?_
 refine EL_p (.int .i64 (y5.2)) (P_extract rfl rfl) rfl ?_
 refine EL_do .plain rfl (D_allocOc (g:=g4) 2006 (⟨⟨[],[],[]⟩⟩:BoxBoxLoom) Tryz.zeroValue83 (fun m w=>⟨_,(rep_two rep_nil (rep_two rep_nil rep_nil)),rfl⟩) fun g6 w6 p6 hs b6 cb=>?_)
 have hfr:=hfr.stp hs
 have rp1:=rp1.stp hs
 have o0:=o0.stp hs rfl
 have u3:=u3.stp hs rfl
 have l5:=l5.stp hs rfl
 have b2:=b2.stp hs rfl
 have x5:=x5.stp hs
 have iB:OSF 2006 60600 0 g6 w6 3 83 ([]:List Int) p6:=cb.osf (by rfl)
 have lB:OSF 2006 60601 1 g6 w6 3 83 ([]:List Int) p6:=cb.osf (by rfl)
 have mB:OSF 2006 60602 2 g6 w6 65 83 ([]:List BoxShuttle) p6:=cb.osf (by rfl)
 clear cb
 refine EL_do .plain rfl (D_storeOc (g:=g6) (v:=t5) Tryz.sizeOf83 rfl b6 rfl x5 fun g7 w7 hs b7 cb=>?_)
 clear cb
 have hfr:=hfr.stp hs
 have rp1:=rp1.stp hs
 have o0:=o0.stp hs rfl
 have u3:=u3.stp hs rfl
 have l5:=l5.stp hs rfl
 have b2:=b2.stp hs rfl
 obtain ⟨gp7,hs,qp7⟩:=OB.pub b7
 have hfr:=hfr.stp hs
 have rp1:=rp1.stp hs
 have o0:=o0.stp hs rfl
 have u3:=u3.stp hs rfl
 have l5:=l5.stp hs rfl
 have b2:=b2.stp hs rfl
 refine EL_at (.int .i64 (y5.2)) rfl rfl ?_
 refine EL_nil (thn_n (E_seq (E_region (EL_p ((.func (.func 77) #[] #[p6])) (P_makeFunc (capf_0_1 (show ev _ _=p6 from rfl))) rfl ?_))))
 refine EL_at ((.func (.func 77) #[] #[p6])) rfl rfl ?_
 refine EL_nil (thn_n (E_joinC h (fun (s:BoxBoxLoom) e w=>∃ (g:Gh) ,Fr gI wI g w∧e 4=p2∧OB 2004 g w 83 (s:BoxBoxLoom) p2∧OSF 2004 60400 0 g w 3 83 (((s).BoxLoom).Boxes) p2∧OSF 2004 60401 1 g w 3 83 (((s).BoxLoom).At) p2∧OSF 2004 60402 2 g w 65 83 (((s).BoxLoom).Shuttles) p2∧e 6=p6∧PT g.m w (y5.1:BoxBoxLoom) p6) (fun X22 r8 x8 h=>?_) ?_))
 ·refine E_block ?_
  refine E_seq (E_region (EL_mw (.int .i64 (y5.2)) rfl rfl ?_))
  refine EL_in (.bool ((y5.2 != (0:Int)))) rfl rfl rfl rfl ?_
  refine EL_at (.bool ((y5.2 != (0:Int)))) rfl rfl ?_
  refine EL_nil (thn_n ?_)
  rcases csome h with ⟨i6,h⟩ | ⟨i6,h⟩
  ·refine E_ct i6 rfl ?_
   refine E_seq (E_region (EL_do .plain rfl (D_load (g:=gp7) Tryz.isAgg83 Tryz.sizeOf83 rfl qp7 fun u9 y9=>?_)))
   refine EL_mw (.int .i64 (y5.2)) rfl rfl ?_
   refine EL_do .plain rfl (D_storeOc (g:=gp7) (v:=u9) Tryz.sizeOf83 rfl b2 rfl y9 fun tB vB hs b25 cb=>?_)
   clear cb
   have hfr:=hfr.stp hs
   refine EL_at (.int .i64 (y5.2)) rfl rfl ?_
   refine EL_nil (thn_n (E_ret (blk_r ?_)))
   refine thn_r ?_
   obtain rfl:=sinj h
   obtain ⟨ad26,cv26,hp26,a9,cr26⟩:=ob_read Tryz.isAgg83 Tryz.sizeOf83 b25
   exact endm_ct rfl rfl ((show _=p2 from rfl).trans hp26) a9 (show _=.int .i64 (y5.2) from rfl) ⟨_,hfr,_,_,rfl,cr26,rfl⟩
  ·refine E_cf i6 rfl ?_
   refine E_seq (E_region (EL_mw up1 rfl rfl ?_))
   refine EL_p (.int .i64 ((x1).length:Int)) (P_len Tryz.underlying49 rfl rp1) rfl ?_
   refine EL_in (.bool ((decide (((x1).length:Int) > (24:Int))))) rfl rfl rfl rfl ?_
   refine EL_at (.bool ((decide (((x1).length:Int) > (24:Int))))) rfl rfl ?_
   refine EL_nil (thn_n ?_)
   rcases csome h with ⟨x6,h⟩ | ⟨x6,h⟩
   ·refine E_ct x6 rfl ?_
    refine E_seq (E_region (EL_do .plain rfl (D_load (g:=gp7) Tryz.isAgg83 Tryz.sizeOf83 rfl qp7 fun z9 bA=>?_)))
    refine EL_do .plain rfl (D_storeOc (g:=gp7) (v:=z9) Tryz.sizeOf83 rfl b2 rfl bA fun yB w29 hs b29 cb=>?_)
    clear cb
    have hfr:=hfr.stp hs
    refine EL_at (.int .i64 (5)) rfl rfl ?_
    refine EL_nil (thn_n (E_ret (blk_r ?_)))
    refine thn_r ?_
    obtain rfl:=sinj h
    obtain ⟨ad30,cv30,hp30,d9,cr30⟩:=ob_read Tryz.isAgg83 Tryz.sizeOf83 b29
    exact endm_ct rfl rfl ((show _=p2 from rfl).trans hp30) d9 (show _=.int .i64 (5) from rfl) ⟨_,hfr,_,_,rfl,cr30,rfl⟩
   ·refine E_cf x6 rfl ?_
    refine E_seq (E_region (EL_mw up1 rfl rfl ?_))
    refine EL_mw ((.func (.func 77) #[] #[p6])) rfl rfl ?_
    obtain ⟨m7,k9,h⟩:=bsome h
    refine EL_do .plain rfl (D_call (g:=gp7) (vs:=[up1,(.func (.func 77) #[] #[p6])]) en78 (.cons rfl (.cons rfl .nil)) (wk78 rp1 ⟨77,#[],#[p6],rfl,en77,fun g' w' hch a0 b0 r hu0 hr=>by exact Fn.mono (wk77 hu0 (qp7.ch hch) hr) fun _ _ _ h=>RV_bool.2 h⟩ k9) fun g8 nB zB hs hr=>?_)
    have hfr:=hfr.ext hs
    have o0:=o0.ext hs
    have u3:=u3.ext hs
    have l5:=l5.ext hs
    have b2:=b2.ext hs
    have qp7:=qp7.ext hs
    subst hr
    refine EL_at (.bool (m7)) rfl rfl ?_
    refine EL_nil (thn_n ?_)
    rcases csome h with ⟨y6,h⟩ | ⟨y6,h⟩
    ·refine E_ct y6 rfl ?_
     refine E_seq (E_region (EL_do .plain rfl (D_load (g:=g8) Tryz.isAgg83 Tryz.sizeOf83 rfl qp7 fun iA rA=>?_)))
     refine EL_do .plain rfl (D_storeOc (g:=g8) (v:=iA) Tryz.sizeOf83 rfl b2 rfl rA fun cC mC hs b35 cb=>?_)
     clear cb
     have hfr:=hfr.stp hs
     refine EL_at (.int .i64 (2)) rfl rfl ?_
     refine EL_nil (thn_n (E_ret (blk_r ?_)))
     refine thn_r ?_
     obtain rfl:=sinj h
     obtain ⟨ad36,cv36,hp36,l9,cr36⟩:=ob_read Tryz.isAgg83 Tryz.sizeOf83 b35
     exact endm_ct rfl rfl ((show _=p2 from rfl).trans hp36) l9 (show _=.int .i64 (2) from rfl) ⟨_,hfr,_,_,rfl,cr36,rfl⟩
    ·refine E_cf y6 rfl ?_
     exact E_skip (blk_n (thn_n (x8 ((⟨⟨[],[],[]⟩⟩:BoxBoxLoom)) _ _ ⟨g8,hfr,rfl,b2,o0,u3,l5,rfl,qp7⟩ h)))
 ·rintro k8 oB qC ⟨v8, hfr, i7, l8, u4_0_37, u4_1_37, u4_2_37, m8, n8⟩ h
  refine E_seq (E_region (EL_do .plain rfl (D_load (g:=v8) Tryz.isAgg83 Tryz.sizeOf83 m8 n8 fun yA aB=>?_)))
  refine EL_do .plain rfl (D_storeOc (g:=v8) (v:=yA) Tryz.sizeOf83 i7 l8 rfl aB fun rC uC hs b39 cb=>?_)
  clear cb
  have hfr:=hfr.stp hs
  refine EL_at (.int .i64 (0)) rfl rfl ?_
  refine EL_nil (thn_n (E_ret ?_))
  obtain rfl:=sinj h
  obtain ⟨ad40,cv40,hp40,n9,cr40⟩:=ob_read Tryz.isAgg83 Tryz.sizeOf83 b39
  exact endm_ct rfl rfl ((show _=p2 from i7).trans hp40) n9 (show _=.int .i64 (0) from rfl) ⟨_,hfr,_,_,rfl,cr40,rfl⟩
theorem N32 {iO:Nat} {gI:Gh} {wI:World} {x0:BoxBoxLoom} {up0:Value} (rp0:RV gI.m wI x0 up0) {r:BoxMill} (h:f32 x0=some r):FnG Tryz.prog 32 #[up0] gI wI (fun g w v=>∃ kv,PT g.m w r v∧FC g.m w 2 kv v∧MP (encK pl_98) iO g w ([]:List (BoxPoint × Int)) kv):=by
 unfold f32 at h
 refine fnG_of_E Tryz.func32 rfl (Nat.le_of_ble_eq_true rfl) fun g0 hm hfr=>?_
 have rp0:RV g0.m wI x0 up0:=hm ▸ rp0
 show E _ 16 none _ _ _ _ _
 refine E_seq (E_region (EL_do .plain rfl (D_box (g:=g0) rfl rp0 fun g1 w1 p1 hs q1=>?_)))
 have hfr:=hfr.ext hs
 refine EL_at (.pointer none) rfl rfl ?_
 refine EL_nil (thn_n (E_seq ?_))
 have q2:=PT_field (part_BoxBoxLoom_0).1 q1
 have q3:=PT_field (part_BoxLoom_0).1 q2
 refine L_load (x:=.tmp 4) Tryz.isAgg27 Tryz.sizeOf27 q3 fun v4 r4 n8=>?_
 obtain ⟨y5,hy5,h⟩:=bsome h
 have q6:=PT_idx r4 hy5
 refine L_load (x:=.tmp 6) Tryz.isAgg3 Tryz.sizeOf3 q6 fun v7 r7 hl7=>?_
 obtain rfl:=RV_int.1 r7
 have q8:=PT_field (part_BoxBoxLoom_0).1 q1
 have q9:=PT_field (part_BoxLoom_0).1 q8
 refine L_load (x:=.tmp 9) Tryz.isAgg27 Tryz.sizeOf27 q9 fun x5 i6 l8=>?_
 obtain ⟨y11,l5,h⟩:=bsome h
 have r8:=PT_idx i6 l5
 refine L_load (x:=.tmp 11) Tryz.isAgg3 Tryz.sizeOf3 r8 fun a9 v8 m8=>?_
 obtain rfl:=RV_int.1 v8
 refine E_drawTL (g:=g1) (n:=10) [0,1,2,3,4,5,6,7,8,9] [] [0,1,2,3,4,5,6,7,8,9] rfl mixed (by kernel_rfl) trivial rfl ?_
 refine L_purL (c:=fPtr p1 0) rfl rfl .plain (P_fieldAddr at_83_0 rfl (PT.ptr q1)) ?_
 refine L_purL (c:=fPtr (fPtr p1 0) 0) rfl rfl .plain (P_fieldAddr at_33_0 rfl (PT.ptr q2)) ?_
 refine L_ldL (c:=v4) rfl rfl .plain (fun _ _ h=>h.ch) rfl n8 rfl ?_
 refine L_purL (c:=ePtr v4 (0:Int) 1) rfl rfl .plain (P_indexAddr (α:=Int) Tryz.underlying27 Tryz.sizeOf3 rfl r4 rfl hy5) ?_
 refine L_ldL (c:=.int .i64 (y5)) rfl rfl .plain (fun _ _ h=>h.ch) rfl hl7 rfl ?_
 refine L_purL (c:=fPtr p1 0) rfl rfl .plain (P_fieldAddr at_83_0 rfl (PT.ptr q1)) ?_
 refine L_purL (c:=fPtr (fPtr p1 0) 0) rfl rfl .plain (P_fieldAddr at_33_0 rfl (PT.ptr q8)) ?_
 refine L_ldL (c:=x5) rfl rfl .plain (fun _ _ h=>h.ch) rfl l8 rfl ?_
 refine L_purL (c:=ePtr x5 (1:Int) 1) rfl rfl .plain (P_indexAddr (α:=Int) Tryz.underlying27 Tryz.sizeOf3 rfl i6 rfl l5) ?_
 refine L_ldL (c:=.int .i64 (y11)) rfl rfl .plain (fun _ _ h=>h.ch) rfl m8 rfl ?_
 refine L_nl fun x6 x8 hs=>?_
 have hlt:Lt g1.m w1 x6 x8:=hs.ch
 have hfr:=hfr.ext hs
 clear hs
 refine TL_do hlt.w .plain rfl (D_makeMap (g:=x6) (encK pl_98) Int 8013 fun u3 y6 o0 hs m28=>?_)
 have hfr:=hfr.stp hs
 have hlt:=hlt.stp hs
 have i7:RV u3.m _ (⟨y5,y11,⟨⟩⟩:BoxMill) (.agg (setCh [[.int .i64 0],[.int .i64 0],[.map none]] [(0,.int .i64 (y5)),(1,.int .i64 (y11)),(2,o0)]).flatten.toArray):=RV_build rfl (rep_pair (rfl) (rep_pair (rfl) (rep_last (RV.cells (m28.ref (m:=u3.m) (w':=y6))))))
 generalize t5:(Value.agg (setCh [[.int .i64 0],[.int .i64 0],[.map none]] [(0,.int .i64 (y5)),(1,.int .i64 (y11)),(2,o0)]).flatten.toArray)=m7 at i7
 refine TL_pur hlt.w (v:=m7) (t5 ▸ P_build (vs:=[(0,.int .i64 (y5)),(1,.int .i64 (y11)),(2,o0)]) [[.int .i64 0],[.int .i64 0],[.map none]] lay_136 rfl rfl (.cons rfl (.cons rfl (.cons rfl .nil))) ⟨⟨_,rfl,rfl⟩,⟨⟨_,rfl,rfl⟩,⟨⟨_,rfl,cells_size (m28.ref (m:=u3.m) (w':=y6))⟩,trivial⟩⟩⟩) .plain rfl ?_
 refine TL_do hlt.w .plain rfl (D_boxF (g:=u3) (v:=m7) (off:=2) (u:=o0) rfl i7 (by rw [← t5]; simp only [setCh,mp_cells m28]; rfl) fun d9 k9 g8 hs k8 fc30=>?_)
 have hfr:=hfr.ext hs
 have hlt:=hlt.ext hs
 have m28:=m28.ext hs
 have hone500215:=PT.one k8
 refine TL_pur hlt.w (v:=g8) (P_assign rfl) .plain rfl ?_
 refine TL_nil hlt.w ?_
 clear hlt
 refine thn_n (E_ret ?_)
 obtain rfl:=sinj h
 obtain ⟨gh,hxh,hmh,mph⟩:=MP.handm (i:=iO) hfr m28
 exact end1 rfl rfl (show _=g8 from rfl) ⟨gh,hxh,o0,hmh ▸ k8,hmh ▸ fc30,mph⟩
def f35 (x0:BoxLoom) (x1:List BoxPick):Option (BoxBoxLoom × BoxRun × Int × Int):=
 jn (σ:=BoxBoxLoom × BoxRun) (fun (x6,k8)=>
  (f30 x6 ((fun a0 a1=>f61 a0 a1))).bind fun r8=>
  (f60 r8 x1).bind fun y71=>
  some (x6,y71.1,y71.2.1,y71.2.2)
  ) fun v8=>
 (f59 x0 x1).bind fun u3=>
 bif (u3.2 != (0 : Int)) then
  some (u3.1,(⟨[],⟨(⟨List.toArray [(⟨List.toArray [0,0,0,0],rfl⟩:Vector Int 4),(⟨List.toArray [0,0,0,0],rfl⟩:Vector Int 4)],rfl⟩:Vector (Vector Int 4) 2),⟨0,0⟩⟩,0⟩:BoxRun),(0:Int),u3.2)
 else
  v8 (u3.1,(⟨[],⟨(⟨List.toArray [(⟨List.toArray [0,0,0,0],rfl⟩:Vector Int 4),(⟨List.toArray [0,0,0,0],rfl⟩:Vector Int 4)],rfl⟩:Vector (Vector Int 4) 2),⟨0,0⟩⟩,0⟩:BoxRun))
theorem en35:Enters Tryz.prog 35:=enters_of Tryz.func35 (by kernel_rfl) rfl
theorem wk35 {gI:Gh} {wI:World} {x0:BoxLoom} {x1:List BoxPick} {up0:Value} (rp0:RV gI.m wI x0 up0) {up1:Value} (rp1:RV gI.m wI x1 up1) {r:BoxBoxLoom × BoxRun × Int × Int} (h:f35 x0 x1=some r):Fn Tryz.prog 35 #[up0,up1] gI wI (fun m w v=>∃ y0 y1 y2 y3,v=.tuple #[y0,y1,y2,y3]∧RV m w (r.1) y0∧RV m w (r.2.1) y1∧y2=.int .i64 (r.2.2.1)∧y3=.int .i64 (r.2.2.2)):=by
 unfold f35 at h
 refine fn_of_E Tryz.func35 rfl (Nat.le_of_ble_eq_true rfl) fun g0 hm hfr=>?_
 have rp0:RV g0.m wI x0 up0:=hm ▸ rp0
 have rp1:RV g0.m wI x1 up1:=hm ▸ rp1
 show E _ 31 none _ _ _ _ _
 refine E_seq (E_region (EL_do .plain rfl (D_box (g:=g0) rfl rp0 fun g1 w1 p1 hs q1=>?_)))
 have hfr:=hfr.ext hs
 have rp1:=rp1.ext hs
 refine EL_do .plain rfl (D_allocOc (g:=g1) 2004 (⟨⟨[],[],[]⟩⟩:BoxBoxLoom) Tryz.zeroValue83 (fun m w=>⟨_,(rep_two rep_nil (rep_two rep_nil rep_nil)),rfl⟩) fun g2 w2 p2 hs b2 cb=>?_)
 have hfr:=hfr.stp hs
 have rp1:=rp1.stp hs
 have q1:=q1.stp hs
 have iD:OSF 2004 60400 0 g2 w2 3 83 ([]:List Int) p2:=cb.osf (by rfl)
 have jD:OSF 2004 60401 1 g2 w2 3 83 ([]:List Int) p2:=cb.osf (by rfl)
 have lD:OSF 2004 60402 2 g2 w2 65 83 ([]:List BoxShuttle) p2:=cb.osf (by rfl)
 clear cb
 refine EL_do .plain rfl (D_allocOc (g:=g2) 2005 (⟨[],⟨(⟨List.toArray [(⟨List.toArray [0,0,0,0],rfl⟩:Vector Int 4),(⟨List.toArray [0,0,0,0],rfl⟩:Vector Int 4)],rfl⟩:Vector (Vector Int 4) 2),⟨0,0⟩⟩,0⟩:BoxRun) Tryz.zeroValue105 (fun m w=>⟨_,(rep_two rep_nil (rep_two (rep_two (rep_vec (flat_chunk (rep_vec (flat_chunk rep_int (flat_chunk rep_int (flat_chunk rep_int (flat_chunk rep_int flat_nil)))) rfl) (flat_chunk (rep_vec (flat_chunk rep_int (flat_chunk rep_int (flat_chunk rep_int (flat_chunk rep_int flat_nil)))) rfl) flat_nil)) rfl) (rep_two rep_int rep_int)) rep_int)),rfl⟩) fun g3 w3 p3 hs b3 cb=>?_)
 have hfr:=hfr.stp hs
 have rp1:=rp1.stp hs
 have q1:=q1.stp hs
 have b2:=b2.stp hs rfl
 have i6:OSF 2005 60500 0 g3 w3 3 105 ([]:List Int) p3:=cb.osf (by rfl)
 clear cb
 refine EL_at (.int .i64 (0)) rfl rfl ?_
 refine EL_at (.int .i64 (0)) rfl rfl ?_
 refine EL_nil (thn_n (E_joinC h (fun (s:BoxBoxLoom × BoxRun) e w=>∃ (g:Gh) ,Fr gI wI g w∧e 1=up1∧RV g.m w (x1:List BoxPick) up1∧e 4=p2∧OB 2004 g w 83 (s.1:BoxBoxLoom) p2∧e 5=p3∧OB 2005 g w 105 (s.2:BoxRun) p3∧OSF 2005 60500 0 g w 3 105 ((s.2).thrown) p3) (fun X34 v8 d9 h=>?_) ?_))
 ·refine E_seq (E_region (EL_do .plain rfl (D_load (g := g3) Tryz.isAgg33 Tryz.sizeOf33 rfl q1 fun nB oB => ?_)))
  refine EL_mw up1 rfl rfl ?_
  obtain ⟨u3,k9,h⟩:=bsome h
  refine EL_do .plain rfl (D_call (g:=g3) (vs:=[nB,up1]) en59 (.cons rfl (.cons rfl .nil)) (wk59 oB rp1 k9) fun tB nD uD hs hr=>?_)
  have hfr:=hfr.ext hs
  have rp1:=rp1.ext hs
  have b2:=b2.ext hs
  have i6:=i6.ext hs
  have b3:=b3.ext hs
  obtain ⟨y6,cD,rfl,l8,rfl⟩:=hr
  refine EL_mw (.tuple #[y6,.int .i64 (u3.2)]) rfl rfl ?_
  refine EL_p y6 (P_extract rfl rfl) rfl ?_
  refine EL_p (.int .i64 (u3.2)) (P_extract rfl rfl) rfl ?_
  refine EL_do .plain rfl (D_storeOc (g:=tB) (v:=y6) Tryz.sizeOf83 rfl b2 rfl l8 fun x8 vD hs b38 cb=>?_)
  clear cb
  have hfr:=hfr.stp hs
  have rp1:=rp1.stp hs
  have i6:=i6.stp hs rfl
  have b3:=b3.stp hs rfl
  refine EL_at (.int .i64 (u3.2)) rfl rfl ?_
  refine EL_nil (thn_n (E_seq (E_region (EL_mw (.int .i64 (u3.2)) rfl rfl ?_))))
  refine EL_in (.bool ((u3.2 != (0:Int)))) rfl rfl rfl rfl ?_
  refine EL_nil (thn_n ?_)
  rcases csome h with ⟨g8,h⟩ | ⟨g8,h⟩
  ·refine E_ct g8 rfl ?_
   refine E_seq (L_selfO Tryz.isAgg83 Tryz.sizeOf83 rfl b38 fun vB l9 n9=>?_)
   refine L_selfO Tryz.isAgg105 Tryz.sizeOf105 rfl b3 fun yB u9 y9=>?_
   refine E_drawL (g:=x8) (n:=7) [(3,(fun _ _ _=>True)),(4,(fun _ _ _=>True))] [0,1,2,3,4,5,6] rfl mixed (by kernel_rfl) (⟨fun _=>(fun _ _ _ _ _ _=>trivial),fun _=>(fun _ _ _ _ _ _=>trivial),trivial⟩) ?_
   refine L_ld (c:=vB) rfl rfl .plain (fun _ _ h=>⟨h.ch,fun b hb _=>h.below.block b hb⟩) (l9 _) rfl ?_
   refine L_ld (c:=yB) rfl rfl .plain (fun _ _ h=>⟨h.ch,fun b hb _=>h.below.block b hb⟩) (u9 _) rfl ?_
   refine L_p (.int .i64 (u3.2)) rfl rfl (P_move rfl) ?_
   refine L_do (φ:=fun _ _ _=>True) rfl rfl .plain (fun g w hd=>n9 _ _ _ g w ⟨hd.1.ch,fun b hb _=>hd.1.below.block b hb⟩ rfl rfl) (fun xD hv=>?_)
   clear hv
   refine L_do (φ:=fun _ _ _=>True) rfl rfl .plain (fun g w hd=>y9 _ _ _ g w ⟨hd.1.ch,fun b hb _=>hd.1.below.block b hb⟩ rfl rfl) (fun yD hv=>?_)
   clear hv
   refine L_p (.int .i64 (0)) rfl rfl (P_assign rfl) ?_
   refine L_p (.int .i64 (u3.2)) rfl rfl (P_assign rfl) ?_
   refine L_nl fun zD aE hs=>?_
   have hfr:=hfr.ext hs
   have b38:=b38.ext hs
   have b3:=b3.ext hs
   clear hs
   refine EL_nil (thn_n (E_ret (thn_r ?_)))
   obtain rfl:=sinj h
   obtain ⟨ad63,cv63,hp63,z9,cr63⟩:=ob_read Tryz.isAgg83 Tryz.sizeOf83 b38
   obtain ⟨ad65,cv65,hp65,bA,cr65⟩:=ob_read Tryz.isAgg105 Tryz.sizeOf105 b3
   exact endm_cctt rfl rfl ((show _=p2 from rfl).trans hp63) z9 ((show _=p3 from rfl).trans hp65) bA (show _=.int .i64 (0) from rfl) (show _=.int .i64 (u3.2) from rfl) ⟨_,hfr,_,_,_,_,rfl,cr63,cr65,rfl,rfl⟩
  ·refine E_cf g8 rfl ?_
   exact E_skip (thn_n (d9 (u3.1,(⟨[],⟨(⟨List.toArray [(⟨List.toArray [0,0,0,0],rfl⟩:Vector Int 4),(⟨List.toArray [0,0,0,0],rfl⟩:Vector Int 4)],rfl⟩:Vector (Vector Int 4) 2),⟨0,0⟩⟩,0⟩:BoxRun)) _ _ ⟨x8,hfr,rfl,rp1,rfl,b38,rfl,b3,i6⟩ h))
 ·rintro ⟨x6, k8⟩ oD bE ⟨a9, hfr, m8, i7, t5, o0, x5, l5, u5_0_66⟩ h
  refine E_seq (E_region (EL_do .plain rfl (D_loadO (g:=a9) Tryz.isAgg83 Tryz.sizeOf83 t5 o0 fun zB cC=>?_)))
  obtain ⟨r8,iA,h⟩:=bsome h
  refine EL_do .plain rfl (D_call (g:=a9) (vs:=[zB,.func (.func 61) #[] #[]]) en30 (.cons rfl (.cons rfl .nil)) (wk30 cC ⟨61,#[],#[],rfl,en61,fun g' w' hch a0 a1 b0 b1 r hu0 hu1 hr=>by obtain rfl:=RV_int.1 hu0; exact Fn.mono (wk61 hu1  hr) fun _ _ _ h=>RV_int.2 h⟩ iA) fun mC sD qC hs hr=>?_)
  have hfr:=hfr.ext hs
  have i7:=i7.ext hs
  have o0:=o0.ext hs
  have l5:=l5.ext hs
  have rC:=hr
  refine EL_mv m8 rfl ?_
  obtain ⟨y71,rA,h⟩:=bsome h
  refine EL_do .plain rfl (D_call (g:=mC) (vs:=[qC,up1]) en60 (.cons rfl (.cons rfl .nil)) (wk60 rC i7 rA) fun uC tD iE hs hr=>?_)
  have hfr:=hfr.ext hs
  have o0:=o0.ext hs
  have l5:=l5.ext hs
  obtain ⟨m7,eD,gD,rfl,n8,rfl,rfl⟩:=hr
  refine EL_mw (.tuple #[m7,.int .i64 (y71.2.1),.int .i64 (y71.2.2)]) rfl rfl ?_
  refine EL_p m7 (P_extract rfl rfl) rfl ?_
  refine EL_p (.int .i64 (y71.2.1)) (P_extract rfl rfl) rfl ?_
  refine EL_p (.int .i64 (y71.2.2)) (P_extract rfl rfl) rfl ?_
  refine EL_do .plain rfl (D_storeOc (g:=uC) (v:=m7) Tryz.sizeOf105 x5 l5 rfl n8 fun vC lE hs b72 cb=>?_)
  clear cb
  have hfr:=hfr.stp hs
  have o0:=o0.stp hs rfl
  refine EL_at (.int .i64 (y71.2.1)) rfl rfl ?_
  refine EL_at (.int .i64 (y71.2.2)) rfl rfl ?_
  refine EL_nil (thn_n (E_seq (L_selfO Tryz.isAgg83 Tryz.sizeOf83 rfl o0 fun aD yA aB=>?_)))
  refine L_selfO Tryz.isAgg105 Tryz.sizeOf105 rfl b72 fun bD dB iB=>?_
  refine E_drawL (g:=vC) (n:=8) [(4,(fun _ _ _=>True)),(5,(fun _ _ _=>True))] [0,1,2,3,4,5,6,7] rfl mixed (by kernel_rfl) (⟨fun _=>(fun _ _ _ _ _ _=>trivial),fun _=>(fun _ _ _ _ _ _=>trivial),trivial⟩) ?_
  refine L_ld (c:=aD) rfl rfl .plain (fun _ _ h=>⟨h.ch,fun b hb _=>h.below.block b hb⟩) (yA _) t5 ?_
  refine L_ld (c:=bD) rfl rfl .plain (fun _ _ h=>⟨h.ch,fun b hb _=>h.below.block b hb⟩) (dB _) x5 ?_
  refine L_p (.int .i64 (y71.2.1)) rfl rfl (P_move rfl) ?_
  refine L_p (.int .i64 (y71.2.2)) rfl rfl (P_move rfl) ?_
  refine L_do (φ:=fun _ _ _=>True) rfl rfl .plain (fun g w hd=>aB _ _ _ g w ⟨hd.1.ch,fun b hb _=>hd.1.below.block b hb⟩ t5 rfl) (fun mE hv=>?_)
  clear hv
  refine L_do (φ:=fun _ _ _=>True) rfl rfl .plain (fun g w hd=>iB _ _ _ g w ⟨hd.1.ch,fun b hb _=>hd.1.below.block b hb⟩ x5 rfl) (fun oE hv=>?_)
  clear hv
  refine L_p (.int .i64 (y71.2.1)) rfl rfl (P_assign rfl) ?_
  refine L_p (.int .i64 (y71.2.2)) rfl rfl (P_assign rfl) ?_
  refine L_nl fun rE uE hs=>?_
  have hfr:=hfr.ext hs
  have o0:=o0.ext hs
  have b72:=b72.ext hs
  clear hs
  refine EL_nil (thn_n (E_ret ?_))
  obtain rfl:=sinj h
  obtain ⟨ad95,cv95,hp95,lB,cr95⟩:=ob_read Tryz.isAgg83 Tryz.sizeOf83 o0
  obtain ⟨ad96,cv96,hp96,mB,cr96⟩:=ob_read Tryz.isAgg105 Tryz.sizeOf105 b72
  exact endm_cctt rfl rfl ((show _=p2 from t5).trans hp95) lB ((show _=p3 from x5).trans hp96) mB (show _=.int .i64 (y71.2.1) from rfl) (show _=.int .i64 (y71.2.2) from rfl) ⟨_,hfr,_,_,_,_,rfl,cr95,cr96,rfl,rfl⟩
def f10 (x0:BoxLoom) (x1:List Int):Option ((List BoxPick) × Int × Int × Int):=
 (f27 x0).bind fun y4=>
 jn (σ:=(List BoxPick)) (fun cG=>
  (f29 x1).bind fun rA=>
  (f30 (y4.1) ((fun a0 a1=>f31 a0 a1))).bind fun y23=>
  jn (σ:=(List BoxPick)) (fun eG=>
   (f32 (y4.1)).bind fun qC=>
   (f33 big qC (([]:List (BoxPoint × Int))) rA ((⟨0,0,y23⟩:BoxPoint))).bind fun rC=>
   Option.bind (α:=(List BoxPick) × (List (BoxPoint × Int))) (
    lp (σ:=(List BoxPick) × BoxPoint × (List (BoxPoint × Int))) (fun cH (lB,yA,n8)=>
     jn (σ:=Unit) (fun _=>
      Option.bind (α:=(List BoxPick) × BoxPoint × (List (BoxPoint × Int))) (
       (f34 qC n8 rA yA).bind fun iD=>
       (apnd 16 lB (([iD.1]:List BoxPick))).bind fun dH=>
       some (dH,iD.2.1,iD.2.2)
       ) fun (mB,mC,r8)=>
      cH (mB,mC,r8)
      ) fun gH=>
     bif (decide ((yA).group < ((rA).length : Int))) then
      gH ()
     else
      some (lB,n8)
     ) big (eG,(⟨0,0,y23⟩:BoxPoint),rC.2)
    ) fun (bD,uC)=>
   some (bD,rC.1,(0:Int),(0:Int))
   ) fun aK=>
  lp (σ:=(List BoxPick) × Int) (fun bK (cD,i6)=>
   bif (decide (i6 < ((x1).length : Int))) then
    jn (σ:=(List BoxPick)) (fun yD=>
     bK (yD,(w64 (i6 + (1:Int))))
     ) fun cK=>
    (f32 (y4.1)).bind fun dK=>
    (cut rA 0 (w64 (i6 + (1:Int)))).bind fun y84=>
    (f33 big dK (([]:List (BoxPoint × Int))) y84 ((⟨0,0,y23⟩:BoxPoint))).bind fun iH=>
    bif (decide (iH.1 ≥ (1073741824 : Int))) then
     some ([],(0:Int),i6,(9:Int))
    else
     cK (cD)
   else
    aK (cD)
   ) big (cG,(0:Int))
  ) fun lK=>
 bif (y4.2 != (0 : Int)) then
  some ([],(0:Int),(0:Int),y4.2)
 else
  bif (decide (((x1).length : Int) > (24 : Int))) then
   some ([],(0:Int),(0:Int),(5:Int))
  else
   (f28 x1).bind fun gG=>
   bif (!gG) then
    some ([],(0:Int),(0:Int),(2:Int))
   else
    lK ([])
theorem en10:Enters Tryz.prog 10:=enters_of Tryz.func10 (by kernel_rfl) rfl
theorem wk10 {gI:Gh} {wI:World} {x0:BoxLoom} {x1:List Int} {up0:Value} (rp0:RV gI.m wI x0 up0) {up1:Value} (rp1:RV gI.m wI x1 up1) {r:(List BoxPick) × Int × Int × Int} (h:f10 x0 x1=some r):Fn Tryz.prog 10 #[up0,up1] gI wI (fun m w v=>∃ y0 y1 y2 y3,v=.tuple #[y0,y1,y2,y3]∧RV m w (r.1) y0∧y1=.int .i64 (r.2.1)∧y2=.int .i64 (r.2.2.1)∧y3=.int .i64 (r.2.2.2)):=by
 unfold f10 at h
 refine fn_of_E Tryz.func10 rfl (Nat.le_of_ble_eq_true rfl) fun g0 hm hfr=>?_
 have rp0:RV g0.m wI x0 up0:=hm ▸ rp0
 have rp1:RV g0.m wI x1 up1:=hm ▸ rp1
 show E _ 81 none _ _ _ _ _
 refine E_seq (E_region (EL_do .plain rfl (D_box (g:=g0) rfl rp0 fun g1 w1 p1 hs q1=>?_)))
 have hfr:=hfr.ext hs
 have rp1:=rp1.ext hs
 refine EL_at (.slice none 0 0) rfl rfl ?_
 iterate 3 refine EL_at (.int .i64 (0)) rfl rfl ?_
 refine EL_nil (thn_n (E_seq (E_region (EL_do .plain rfl (D_load (g:=g1) Tryz.isAgg33 Tryz.sizeOf33 rfl q1 fun v2 r2=>?_)))))
 obtain ⟨y4,qM,h⟩:=bsome h
 refine EL_do .plain rfl (D_call (g:=g1) (vs:=[v2]) en27 (.cons rfl .nil) (wk27 r2 qM) fun g3 w3_ v3 hs hr=>?_)
 have hfr:=hfr.ext hs
 have rp1:=rp1.ext hs
 obtain ⟨cF,sN,rfl,dF,rfl⟩:=hr
 refine EL_mw (.tuple #[cF,.int .i64 (y4.2)]) rfl rfl ?_
 refine EL_p cF (P_extract rfl rfl) rfl ?_
 refine EL_p (.int .i64 (y4.2)) (P_extract rfl rfl) rfl ?_
 refine EL_do .plain rfl (D_allocOc (g:=g3) 2008 (⟨⟨[],[],[]⟩⟩:BoxBoxLoom) Tryz.zeroValue83 (fun m w=>⟨_,(rep_two rep_nil (rep_two rep_nil rep_nil)),rfl⟩) fun g5 w5 p5 hs b5 cb=>?_)
 have hfr:=hfr.stp hs
 have rp1:=rp1.stp hs
 have dF:=dF.stp hs
 have tN:OSF 2008 60800 0 g5 w5 3 83 ([]:List Int) p5:=cb.osf (by rfl)
 have uN:OSF 2008 60801 1 g5 w5 3 83 ([]:List Int) p5:=cb.osf (by rfl)
 have vN:OSF 2008 60802 2 g5 w5 65 83 ([]:List BoxShuttle) p5:=cb.osf (by rfl)
 clear cb
 refine EL_do .plain rfl (D_storeOc (g:=g5) (v:=cF) Tryz.sizeOf83 rfl b5 rfl dF fun g6 w6 hs b6 cb=>?_)
 clear cb
 have hfr:=hfr.stp hs
 have rp1:=rp1.stp hs
 refine EL_at (.int .i64 (y4.2)) rfl rfl ?_
 refine EL_nil (thn_n (E_joinC h (fun (s:(List BoxPick)) e w=>∃ (g:Gh) (v4:Value),Fr gI wI g w∧e 1=up1∧RV g.m w (x1:List Int) up1∧e 4=v4∧RV g.m w (s:List BoxPick) v4∧OS 1004 g w 92 (s:List BoxPick) v4∧e 8=p5∧OB 2008 g w 83 (y4.1:BoxBoxLoom) p5) (fun X12 lK zK h=>?_) ?_))
 ·refine E_block ?_
  refine E_seq (E_region (EL_mw (.int .i64 (y4.2)) rfl rfl ?_))
  refine EL_in (.bool ((y4.2 != (0:Int)))) rfl rfl rfl rfl ?_
  refine EL_at (.bool ((y4.2 != (0:Int)))) rfl rfl ?_
  refine EL_nil (thn_n ?_)
  rcases csome h with ⟨eF,h⟩ | ⟨eF,h⟩
  ·refine E_ct eF rfl ?_
   refine E_seq (E_region (EL_mw (.int .i64 (y4.2)) rfl rfl ?_))
   refine EL_at (.slice none 0 0) rfl rfl ?_
   refine EL_at (.int .i64 (0)) rfl rfl ?_
   refine EL_at (.int .i64 (0)) rfl rfl ?_
   refine EL_at (.int .i64 (y4.2)) rfl rfl ?_
   refine EL_nil (thn_n (E_ret (blk_r ?_)))
   refine thn_r ?_
   obtain rfl:=sinj h
   exact end4 rfl rfl (show _=.slice none 0 0 from rfl) (show _=.int .i64 (0) from rfl) (show _=.int .i64 (0) from rfl) (show _=.int .i64 (y4.2) from rfl) ⟨_,hfr,_,_,_,_,rfl,RV_nil,rfl,rfl,rfl⟩
  ·refine E_cf eF rfl ?_
   refine E_seq (E_region (EL_mw up1 rfl rfl ?_))
   refine EL_p (.int .i64 ((x1).length:Int)) (P_len Tryz.underlying27 rfl rp1) rfl ?_
   refine EL_in (.bool ((decide (((x1).length:Int) > (24:Int))))) rfl rfl rfl rfl ?_
   refine EL_at (.bool ((decide (((x1).length:Int) > (24:Int))))) rfl rfl ?_
   refine EL_nil (thn_n ?_)
   rcases csome h with ⟨rF,h⟩ | ⟨rF,h⟩
   ·refine E_ct rF rfl ?_
    refine E_seq (E_region (EL_at (.slice none 0 0) rfl rfl ?_))
    refine EL_at (.int .i64 (0)) rfl rfl ?_
    refine EL_at (.int .i64 (0)) rfl rfl ?_
    refine EL_at (.int .i64 (5)) rfl rfl ?_
    refine EL_nil (thn_n (E_ret (blk_r ?_)))
    refine thn_r ?_
    obtain rfl:=sinj h
    exact end4 rfl rfl (show _=.slice none 0 0 from rfl) (show _=.int .i64 (0) from rfl) (show _=.int .i64 (0) from rfl) (show _=.int .i64 (5) from rfl) ⟨_,hfr,_,_,_,_,rfl,RV_nil,rfl,rfl,rfl⟩
   ·refine E_cf rF rfl ?_
    refine E_seq (E_region (EL_mw up1 rfl rfl ?_))
    obtain ⟨gG,aL,h⟩:=bsome h
    refine EL_do .plain rfl (D_call (g:=g6) (vs:=[up1]) en28 (.cons rfl .nil) (wk28 rp1 aL) fun rM xN iP hs hr=>?_)
    have hfr:=hfr.ext hs
    have rp1:=rp1.ext hs
    have b6:=b6.ext hs
    subst hr
    refine EL_p (.bool (!gG)) (P_not rfl) rfl ?_
    refine EL_at (.bool (!gG)) rfl rfl ?_
    refine EL_nil (thn_n ?_)
    rcases csome h with ⟨sF,h⟩ | ⟨sF,h⟩
    ·refine E_ct sF rfl ?_
     refine E_seq (E_region (EL_at (.slice none 0 0) rfl rfl ?_))
     refine EL_at (.int .i64 (0)) rfl rfl ?_
     refine EL_at (.int .i64 (0)) rfl rfl ?_
     refine EL_at (.int .i64 (2)) rfl rfl ?_
     refine EL_nil (thn_n (E_ret (blk_r ?_)))
     refine thn_r ?_
     obtain rfl:=sinj h
     exact end4 rfl rfl (show _=.slice none 0 0 from rfl) (show _=.int .i64 (0) from rfl) (show _=.int .i64 (0) from rfl) (show _=.int .i64 (2) from rfl) ⟨_,hfr,_,_,_,_,rfl,RV_nil,rfl,rfl,rfl⟩
    ·refine E_cf sF rfl ?_
     exact E_skip (blk_n (thn_n (zK ([]) _ _ ⟨rM,(.slice none 0 0),hfr,rfl,rp1,rfl,RV_nil,OS.nil,rfl,b6⟩ h)))
 ·rintro cG yN jP ⟨sM, vI, hfr, hG, v8, yI, k9, l9, iG, x8⟩ h
  refine E_seq (E_region (EL_mv hG rfl ?_))
  obtain ⟨rA,hy20,h⟩:=bsome h
  refine EL_do .plain rfl (D_call (g:=sM) (vs:=[up1]) en29 (.cons rfl .nil) (wk29 v8 hy20) fun mK zN l8 hs hr=>?_)
  have hfr:=hfr.ext hs
  have v8:=v8.ext hs
  have k9:=k9.ext hs
  have l9:=l9.ext hs
  have x8:=x8.ext hs
  have jD:=hr
  refine EL_at l8 rfl rfl ?_
  refine EL_nil (thn_n (E_seq (E_region (EL_do .plain rfl (D_loadO (g:=mK) Tryz.isAgg83 Tryz.sizeOf83 iG x8 fun tM uM=>?_)))))
  obtain ⟨y23,bL,h⟩:=bsome h
  refine EL_do .plain rfl (D_call (g:=mK) (vs:=[tM,.func (.func 31) #[] #[]]) en30 (.cons rfl (.cons rfl .nil)) (wk30 uM ⟨31,#[],#[],rfl,en31,fun g' w' hch a0 a1 b0 b1 r hu0 hu1 hr=>by obtain rfl:=RV_int.1 hu0; exact Fn.mono (wk31 hu1  hr) fun _ _ _ h=>RV_int.2 h⟩ bL) fun nK aO jH hs hr=>?_)
  have hfr:=hfr.ext hs
  have v8:=v8.ext hs
  have k9:=k9.ext hs
  have l9:=l9.ext hs
  have x8:=x8.ext hs
  have jD:=jD.ext hs
  have oK:=hr
  have jG:RV nK.m _ (⟨0,0,y23⟩:BoxPoint) (.agg (setCh [[.int .i64 0],[.int .i64 0],[.int .i64 0,.int .i64 0,.int .i64 0,.int .i64 0,.int .i64 0,.int .i64 0,.int .i64 0,.int .i64 0,.int .i64 0,.int .i64 0]] [(2,jH)]).flatten.toArray):=RV_build rfl (rep_pair (rep_int) (rep_pair (rep_int) (rep_last (RV.cells oK))))
  generalize dL:(Value.agg (setCh [[.int .i64 0],[.int .i64 0],[.int .i64 0,.int .i64 0,.int .i64 0,.int .i64 0,.int .i64 0,.int .i64 0,.int .i64 0,.int .i64 0,.int .i64 0,.int .i64 0]] [(2,jH)]).flatten.toArray)=pK at jG
  refine EL_p pK (dL ▸ P_build (vs:=[(2,jH)]) [[.int .i64 0],[.int .i64 0],[.int .i64 0,.int .i64 0,.int .i64 0,.int .i64 0,.int .i64 0,.int .i64 0,.int .i64 0,.int .i64 0,.int .i64 0,.int .i64 0]] lay_98 rfl rfl (.cons rfl .nil) ⟨⟨_,rfl,cells_size oK⟩,trivial⟩) rfl ?_
  refine EL_do .plain rfl (D_allocOc (g:=nK) 2010 (⟨0,0,⟨(⟨List.toArray [(⟨List.toArray [0,0,0,0],rfl⟩:Vector Int 4),(⟨List.toArray [0,0,0,0],rfl⟩:Vector Int 4)],rfl⟩:Vector (Vector Int 4) 2),⟨0,0⟩⟩⟩:BoxPoint) Tryz.zeroValue98 (fun m w=>⟨_,(rep_two rep_int (rep_two rep_int (rep_two (rep_vec (flat_chunk (rep_vec (flat_chunk rep_int (flat_chunk rep_int (flat_chunk rep_int (flat_chunk rep_int flat_nil)))) rfl) (flat_chunk (rep_vec (flat_chunk rep_int (flat_chunk rep_int (flat_chunk rep_int (flat_chunk rep_int flat_nil)))) rfl) flat_nil)) rfl) (rep_two rep_int rep_int)))),rfl⟩) fun vM kP uD hs b25 cb=>?_)
  have hfr:=hfr.stp hs
  have v8:=v8.stp hs
  have k9:=k9.stp hs
  have l9:=l9.stp hs rfl
  have x8:=x8.stp hs rfl
  have jD:=jD.stp hs
  have jG:=jG.stp hs
  clear cb
  refine EL_do .plain rfl (D_storeOc (g:=vM) (v:=pK) Tryz.sizeOf98 rfl b25 rfl jG fun xM lP hs b26 cb=>?_)
  clear cb
  have hfr:=hfr.stp hs
  have v8:=v8.stp hs
  have k9:=k9.stp hs
  have l9:=l9.stp hs rfl
  have x8:=x8.stp hs rfl
  have jD:=jD.stp hs
  refine EL_nil (thn_n (E_joinC h (fun (s:(List BoxPick)) e w=>∃ (g:Gh) (v4:Value),Fr gI wI g w∧e 4=v4∧RV g.m w (s:List BoxPick) v4∧OS 1004 g w 92 (s:List BoxPick) v4∧e 8=p5∧OB 2008 g w 83 (y4.1:BoxBoxLoom) p5∧e 9=l8∧RV g.m w (rA:List (List Int)) l8∧e 10=uD∧OB 2010 g w 98 ((⟨0,0,y23⟩:BoxPoint):BoxPoint) uD) (fun X58 aK eL h=>?_) ?_))
  ·refine E_seq (E_region (EL_mv hG rfl ?_))
   refine EL_p (.int .i64 ((x1).length:Int)) (P_len Tryz.underlying27 rfl v8) rfl ?_
   refine EL_mw (.int .i64 (0)) rfl rfl ?_
   refine EL_nil (thn_n (E_block ?_))
   refine E_lp h (fun (s:(List BoxPick) × Int) e w=>∃ (g:Gh) (v4:Value),Fr gI wI g w∧e 4=v4∧RV g.m w (s.1:List BoxPick) v4∧OS 1004 g w 92 (s.1:List BoxPick) v4∧e 8=p5∧OB 2008 g w 83 (y4.1:BoxBoxLoom) p5∧e 9=l8∧RV g.m w (rA:List (List Int)) l8∧e 10=uD∧OB 2010 g w 98 ((⟨0,0,y23⟩:BoxPoint):BoxPoint) uD∧e 39=.int .i64 (((x1).length:Int))∧e 40=.int .i64 (s.2)) ⟨xM,(vI),hfr,yI,k9,l9,iG,x8,rfl,jD,rfl,b26,rfl,rfl⟩ (fun X59 bK gL=>?_)
   rintro ⟨cD,i6⟩ bO bN ⟨kH,kG,hfr,lG,bA,iA,zD,n9,aE,a9,lD,k8,iE,nD⟩ h
   refine E_seq (E_region (EL_in (.bool ((decide (i6 < ((x1).length:Int))))) nD iE rfl rfl ?_))
   refine EL_nil (thn_n (E_seq ?_))
   rcases csome h with ⟨tF,h⟩ | ⟨tF,h⟩
   ·refine E_ct tF rfl ?_
    refine E_skip (thn_n (E_joinC h (fun (s:(List BoxPick)) e w=>∃ (g:Gh) (v4:Value),Fr gI wI g w∧e 4=v4∧RV g.m w (s:List BoxPick) v4∧OS 1004 g w 92 (s:List BoxPick) v4∧e 8=p5∧OB 2008 g w 83 (y4.1:BoxBoxLoom) p5∧e 9=l8∧RV g.m w (rA:List (List Int)) l8∧e 10=uD∧OB 2010 g w 98 ((⟨0,0,y23⟩:BoxPoint):BoxPoint) uD∧e 39=.int .i64 (((x1).length:Int))∧e 40=.int .i64 (i6)) (fun X76 cK iL h=>?_) ?_))
    ·refine E_block ?_
     refine E_seq (E_region (EL_mv nD rfl ?_))
     refine EL_at (.int .i64 (i6)) rfl rfl ?_
     refine EL_nil (thn_n (E_seq (L_loadO0 (x:=.tmp 8) Tryz.isAgg83 Tryz.sizeOf83 n9 fun qK lH jL=>?_)))
     obtain ⟨dK,lL,h⟩:=bsome h
     obtain ⟨y84,mH,h⟩:=bsome h
     have nH:=RV_cut a9 mH
     refine L_loadO0 (x:=.tmp 10) Tryz.isAgg98 Tryz.sizeOf98 k8 fun sK oH mL=>?_
     refine E_drawC (g:=kH) (w:=bN) (n:=7) [0,2,3,4,5,6] [2008,2010] [0,1,2,3,4,5,6] rfl mixed (by kernel_rfl) fun w_c80 hs hlt=>?_
     have hfr:=hfr.ext hs
     have bA:=bA.ext hs
     have iA:=iA.ext hs
     have n9:=n9.ext hs
     have a9:=a9.ext hs
     have k8:=k8.ext hs
     clear hs
     refine CH_ldO (n:=2008) (c:=qK) rfl rfl .plain jL zD rfl ?_
     have lH:=lH.ch hlt.1
     refine CH_do rfl rfl .plain (D_callG (g:=kH) (vs:=[qK]) en32 (.cons rfl .nil) (N32 (iO:=8044) lH lL) fun cN cO dN hs hr=>?_)
     have hfr:=hfr.ext hs
     have hlt:=hlt.ext hs
     have bA:=bA.ext hs
     have iA:=iA.ext hs
     have n9:=n9.ext hs
     have a9:=a9.ext hs
     have k8:=k8.ext hs
     obtain ⟨kv82,tK,fc82,m82⟩:=hr
     have hone500244:=PT.one tK
     refine ⟨hlt.toW,?_⟩
     refine CH_pur (c:=l8) rfl rfl .plain (P_move aE) ?_
     refine CH_pur (c:=.int .i64 (i6)) rfl rfl .plain (P_move rfl) ?_
     refine CH_pur (c:=.int .i64 ((w64 (i6 + (1:Int))))) rfl rfl .plain (P_int rfl rfl rfl) ?_
     refine CH_pur (c:=(cutV l8 (Int.toNat 0) (Int.toNat (w64 (i6 + (1:Int)))) 1)) rfl rfl .plain (P_slice Tryz.underlying87 Tryz.sizeOf27 rfl a9 rfl rfl mH) ?_
     have nH:=nH.ch hlt.1
     refine CH_ldO (n:=2010) (c:=sK) rfl rfl .plain mL lD rfl ?_
     have oH:=oH.ch hlt.1
     refine CH_nil ?_
     clear hlt
     obtain ⟨iH,nL,h⟩:=bsome h
     refine EL_do .plain rfl (D_callM (g:=cN) (i:=8044) (vs:=[dN,(cutV l8 (Int.toNat 0) (Int.toNat (w64 (i6 + (1:Int)))) 1),sK]) en33 (.cons rfl (.cons rfl (.cons rfl .nil))) (wk33 big tK fc82 m82 nH oH nL) fun eN dO mP hs hr=>?_)
     obtain ⟨hrv,b87⟩:=hr
     have hfr:=hfr.stp hs
     have bA:=bA.stp hs
     have iA:=iA.stp hs rfl
     have n9:=n9.stp hs rfl
     have a9:=a9.stp hs
     have k8:=k8.stp hs rfl
     subst hrv
     refine EL_in (.bool ((decide (iH.1 ≥ (1073741824:Int))))) rfl rfl rfl rfl ?_
     refine EL_nil (thn_n ?_)
     rcases csome h with ⟨uF,h⟩ | ⟨uF,h⟩
     ·refine E_ct uF rfl ?_
      refine E_seq (E_region (EL_mw (.int .i64 (i6)) rfl rfl ?_))
      refine EL_at (.slice none 0 0) rfl rfl ?_
      refine EL_at (.int .i64 (0)) rfl rfl ?_
      refine EL_at (.int .i64 (i6)) rfl rfl ?_
      refine EL_at (.int .i64 (9)) rfl rfl ?_
      refine EL_nil (thn_n (E_ret (blk_r ?_)))
      refine thn_r ?_
      refine thn_r ?_
      refine blk_r ?_
      refine thn_r ?_
      obtain rfl:=sinj h
      exact end4 rfl rfl (show _=.slice none 0 0 from rfl) (show _=.int .i64 (0) from rfl) (show _=.int .i64 (i6) from rfl) (show _=.int .i64 (9) from rfl) ⟨_,hfr,_,_,_,_,rfl,RV_nil,rfl,rfl,rfl⟩
     ·refine E_cf uF rfl ?_
      exact E_skip (blk_n (thn_n (iL (cD) _ _ ⟨eN,(kG),hfr,lG,bA,iA,zD,n9,aE,a9,lD,k8,iE,nD⟩ h)))
    ·rintro yD eO nP ⟨gN, zI, hfr, eJ, gJ, iJ, jJ, kJ, lJ, mJ, pH, qH, sH, tH⟩ h
     refine E_region (EL_in (.int .i64 ((w64 (i6 + (1:Int))))) tH rfl rfl rfl ?_)
     refine EL_mw (.int .i64 ((w64 (i6 + (1:Int))))) rfl rfl ?_
     exact EL_nil (thn_n (gL (yD,(w64 (i6 + (1:Int)))) _ _ ⟨gN,(zI),hfr,eJ,gJ,iJ,jJ,kJ,lJ,mJ,pH,qH,sH,rfl⟩ h))
   ·refine E_cf tF rfl ?_
    refine E_exit ?_
    refine thn_e ?_
    refine thn_e ?_
    refine blk_hit ?_
    exact thn_n (eL (cD) _ _ ⟨kH,(kG),hfr,lG,bA,iA,zD,n9,aE,a9,lD,k8⟩ h)
  ·rintro eG gO oP ⟨uK, nJ, hfr, oJ, u9, y9, pJ, qJ, mG, d9, lE, aB⟩ h
   refine E_seq (E_region (EL_do .plain rfl (D_loadO (g:=uK) Tryz.isAgg83 Tryz.sizeOf83 pJ qJ fun iN jN=>?_)))
   obtain ⟨qC,oL,h⟩:=bsome h
   refine EL_do .plain rfl (D_callG (g:=uK) (vs:=[iN]) en32 (.cons rfl .nil) (N32 (iO:=8055) jN oL) fun vK jO m8 hs hr=>?_)
   have hfr:=hfr.ext hs
   have u9:=u9.ext hs
   have y9:=y9.ext hs
   have d9:=d9.ext hs
   have aB:=aB.ext hs
   obtain ⟨kv93,vC,fc93,m93⟩:=hr
   have hone500255:=PT.one vC
   refine EL_at m8 rfl rfl ?_
   refine EL_nil (thn_n (E_seq (E_region (EL_mw m8 rfl rfl ?_))))
   refine EL_mv mG rfl ?_
   refine EL_do .plain rfl (D_loadO (g:=vK) Tryz.isAgg98 Tryz.sizeOf98 lE aB fun kN lN=>?_)
   obtain ⟨rC,pL,h⟩:=bsome h
   refine EL_do .plain rfl (D_callM (g:=vK) (i:=8055) (vs:=[m8,l8,kN]) en33 (.cons rfl (.cons rfl (.cons rfl .nil))) (wk33 big vC fc93 m93 d9 lN pL) fun xK kO pP hs hr=>?_)
   obtain ⟨hrv,b96⟩:=hr
   have hfr:=hfr.stp hs
   have u9:=u9.stp hs
   have y9:=y9.stp hs rfl
   have d9:=d9.stp hs
   have aB:=aB.stp hs rfl
   have vC:=vC.stp hs
   have fc93:=fc93.stp hs
   subst hrv
   refine EL_at (.int .i64 (rC.1)) rfl rfl ?_
   refine EL_nil (thn_n ?_)
   obtain ⟨⟨bD,uC⟩,hx,h⟩:=bsome h
   refine E_join (fun e w=>∃ (g:Gh) (v4:Value),Fr gI wI g w∧e 4=v4∧RV g.m w (bD:List BoxPick) v4∧OS 1004 g w 92 (bD:List BoxPick) v4∧e 5=.int .i64 (rC.1)∧PT g.m w (qC:BoxMill) m8∧MP (encK pl_98) 8055 g w (uC:List (BoxPoint × Int)) kv93∧FC g.m w 2 kv93 m8) (fun Q' hQ=>?_) (fun nN lO hR=>?_)
   ·replace h := hx
    clear hx
    refine E_seq (E_region (EL_do .plain rfl (D_loadO (g:=xK) Tryz.isAgg98 Tryz.sizeOf98 lE aB fun qL vF=>?_)))
    refine EL_do .plain rfl (D_allocOc (g:=xK) 2013 (⟨0,0,⟨(⟨List.toArray [(⟨List.toArray [0,0,0,0],rfl⟩:Vector Int 4),(⟨List.toArray [0,0,0,0],rfl⟩:Vector Int 4)],rfl⟩:Vector (Vector Int 4) 2),⟨0,0⟩⟩⟩:BoxPoint) Tryz.zeroValue98 (fun m w=>⟨_,(rep_two rep_int (rep_two rep_int (rep_two (rep_vec (flat_chunk (rep_vec (flat_chunk rep_int (flat_chunk rep_int (flat_chunk rep_int (flat_chunk rep_int flat_nil)))) rfl) (flat_chunk (rep_vec (flat_chunk rep_int (flat_chunk rep_int (flat_chunk rep_int (flat_chunk rep_int flat_nil)))) rfl) flat_nil)) rfl) (rep_two rep_int rep_int)))),rfl⟩) fun rL mO tL hs b160 cb=>?_)
    have hfr:=hfr.stp hs
    have u9:=u9.stp hs
    have y9:=y9.stp hs rfl
    have d9:=d9.stp hs
    have vC:=vC.stp hs
    have b96:=b96.stp hs rfl
    have fc93:=fc93.stp hs
    have vF:=vF.stp hs
    clear cb
    refine EL_do .plain rfl (D_storeOc (g:=rL) (v:=qL) Tryz.sizeOf98 rfl b160 rfl vF fun uL nO hs b161 cb=>?_)
    clear cb
    have hfr:=hfr.stp hs
    have u9:=u9.stp hs
    have y9:=y9.stp hs rfl
    have d9:=d9.stp hs
    have vC:=vC.stp hs
    have b96:=b96.stp hs rfl
    have fc93:=fc93.stp hs
    refine EL_nil (thn_n (E_block ?_))
    refine E_lp h (fun (s:(List BoxPick) × BoxPoint × (List (BoxPoint × Int))) e w=>∃ (g:Gh) (v4 yK:Value),Fr gI wI g w∧e 4=v4∧RV g.m w (s.1:List BoxPick) v4∧OS 1004 g w 92 (s.1:List BoxPick) v4∧e 5=.int .i64 (rC.1)∧e 9=l8∧RV g.m w (rA:List (List Int)) l8∧e 12=m8∧PT g.m w (qC:BoxMill) m8∧e 13=yK∧OB 2013 g w 98 (s.2.1:BoxPoint) yK∧PT g.m w (qC:BoxMill) m8∧MP (encK pl_98) 8055 g w (s.2.2:List (BoxPoint × Int)) kv93∧FC g.m w 2 kv93 m8) ⟨uL,(nJ),(tL),hfr,oJ,u9,y9,rfl,mG,d9,rfl,vC,rfl,b161,vC,b96,fc93⟩ (fun X162 cH rJ=>?_)
    rintro ⟨lB,yA,n8⟩ oN oO ⟨xF,nB,dB,hfr,mE,oE,rE,uE,vE,xE,sG,xG,vD,eD,oB,aD,tB⟩ h
    refine E_joinC h (fun (s:Unit) e w=>∃ (g:Gh) ,Fr gI wI g w∧e 4=nB∧RV g.m w (lB:List BoxPick) nB∧OS 1004 g w 92 (lB:List BoxPick) nB∧e 5=.int .i64 (rC.1)∧e 9=l8∧RV g.m w (rA:List (List Int)) l8∧e 12=m8∧PT g.m w (qC:BoxMill) m8∧e 13=dB∧OB 2013 g w 98 (yA:BoxPoint) dB∧PT g.m w (qC:BoxMill) m8∧MP (encK pl_98) 8055 g w (n8:List (BoxPoint × Int)) kv93∧FC g.m w 2 kv93 m8) (fun X167 gH sJ h=>?_) ?_
    ·refine E_seq (E_region (EL_p (fPtr dB 0) (P_fieldAddr at_98_0 vD (OB.ptr eD)) rfl ?_))
     refine EL_do .plain rfl (D_loadF (g:=xF) part_BoxPoint_0.1 Tryz.isAgg3 Tryz.sizeOf3 rfl eD fun pO vL=>?_)
     obtain rfl:=RV_int.1 vL
     refine EL_mv vE rfl ?_
     refine EL_p (.int .i64 ((rA).length:Int)) (P_len Tryz.underlying87 rfl xE) rfl ?_
     refine EL_in (.bool ((decide ((yA).group < ((rA).length:Int))))) rfl rfl rfl rfl ?_
     refine EL_nil (thn_n ?_)
     rcases csome h with ⟨bE,h⟩ | ⟨bE,h⟩
     ·refine E_ct bE rfl ?_
      exact E_skip (thn_n (sJ () _ _ ⟨xF,hfr,mE,oE,rE,uE,vE,xE,sG,xG,vD,eD,oB,aD,tB⟩ h))
     ·refine E_cf bE rfl ?_
      refine E_exit ?_
      refine thn_e ?_
      refine thn_e ?_
      refine blk_hit ?_
      obtain ⟨rfl,rfl⟩:=pairs2 h
      exact hQ _ _ ⟨xF,(nB),hfr,mE,oE,rE,uE,oB,aD,tB⟩
    ·rintro _ pN qO ⟨uH, hfr, xH, x6, y6, yH, yE, x5, xD, l5, gD, t5, u3, tD, o0⟩ h
     obtain ⟨⟨mB,mC,r8⟩,hx,h⟩:=bsome h
     refine E_join (fun e w=>∃ (g:Gh) (v4:Value),Fr gI wI g w∧e 4=v4∧RV g.m w (mB:List BoxPick) v4∧OS 1004 g w 92 (mB:List BoxPick) v4∧e 5=.int .i64 (rC.1)∧e 9=l8∧RV g.m w (rA:List (List Int)) l8∧e 12=m8∧PT g.m w (qC:BoxMill) m8∧e 13=dB∧OB 2013 g w 98 (mC:BoxPoint) dB∧PT g.m w (qC:BoxMill) m8∧MP (encK pl_98) 8055 g w (r8:List (BoxPoint × Int)) kv93∧FC g.m w 2 kv93 m8) (fun Q' hQ=>?_) (fun qN rO hR=>?_)
     ·replace h := hx
      clear hx
      refine E_block ?_
      refine E_seq (E_region (EL_mv xD rfl ?_))
      refine EL_mv yE rfl ?_
      refine EL_do .plain rfl (D_loadO (g:=uH) Tryz.isAgg98 Tryz.sizeOf98 gD t5 fun xL yL=>?_)
      obtain ⟨iD,vJ,h⟩:=bsome h
      refine EL_do .plain rfl (D_callM (g:=uH) (i:=8055) (vs:=[m8,l8,xL]) en34 (.cons rfl (.cons rfl (.cons rfl .nil))) (wk34 l5 o0 tD x5 yL vJ) fun zL rN sO hs hr=>?_)
      obtain ⟨hrv,b195⟩:=hr
      have hfr:=hfr.stp hs
      have x6:=x6.stp hs
      have y6:=y6.stp hs rfl
      have x5:=x5.stp hs
      have l5:=l5.stp hs
      have t5:=t5.stp hs rfl
      have u3:=u3.stp hs
      have o0:=o0.stp hs
      obtain ⟨oD,sD,rfl,vB,z9⟩:=hrv
      refine EL_mw (.tuple #[oD,sD]) rfl rfl ?_
      refine EL_p oD (P_extract rfl rfl) rfl ?_
      refine EL_p sD (P_extract rfl rfl) rfl ?_
      refine EL_do .plain rfl (D_allocOc (g:=zL) 2014 (⟨0,0⟩:BoxPick) Tryz.zeroValue92 (fun m w=>⟨_,(rep_two rep_int rep_int),rfl⟩) fun aM tO uO hs b197 cb=>?_)
      have hfr:=hfr.stp hs
      have x6:=x6.stp hs
      have y6:=y6.stp hs rfl
      have x5:=x5.stp hs
      have l5:=l5.stp hs
      have t5:=t5.stp hs rfl
      have u3:=u3.stp hs
      have b195:=b195.stp hs rfl
      have o0:=o0.stp hs
      have vB:=vB.stp hs
      have z9:=z9.stp hs
      clear cb
      refine EL_do .plain rfl (D_allocOc (g:=aM) 2015 (⟨0,0,⟨(⟨List.toArray [(⟨List.toArray [0,0,0,0],rfl⟩:Vector Int 4),(⟨List.toArray [0,0,0,0],rfl⟩:Vector Int 4)],rfl⟩:Vector (Vector Int 4) 2),⟨0,0⟩⟩⟩:BoxPoint) Tryz.zeroValue98 (fun m w=>⟨_,(rep_two rep_int (rep_two rep_int (rep_two (rep_vec (flat_chunk (rep_vec (flat_chunk rep_int (flat_chunk rep_int (flat_chunk rep_int (flat_chunk rep_int flat_nil)))) rfl) (flat_chunk (rep_vec (flat_chunk rep_int (flat_chunk rep_int (flat_chunk rep_int (flat_chunk rep_int flat_nil)))) rfl) flat_nil)) rfl) (rep_two rep_int rep_int)))),rfl⟩) fun bM vO xO hs b198 cb=>?_)
      have hfr:=hfr.stp hs
      have x6:=x6.stp hs
      have y6:=y6.stp hs rfl
      have x5:=x5.stp hs
      have l5:=l5.stp hs
      have t5:=t5.stp hs rfl
      have u3:=u3.stp hs
      have b195:=b195.stp hs rfl
      have o0:=o0.stp hs
      have vB:=vB.stp hs
      have z9:=z9.stp hs
      have b197:=b197.stp hs rfl
      clear cb
      refine EL_do .plain rfl (D_storeOc (g:=bM) (v:=oD) Tryz.sizeOf92 rfl b197 rfl vB fun cM yO hs b199 cb=>?_)
      clear cb
      have hfr:=hfr.stp hs
      have x6:=x6.stp hs
      have y6:=y6.stp hs rfl
      have x5:=x5.stp hs
      have l5:=l5.stp hs
      have t5:=t5.stp hs rfl
      have u3:=u3.stp hs
      have b195:=b195.stp hs rfl
      have o0:=o0.stp hs
      have z9:=z9.stp hs
      have b198:=b198.stp hs rfl
      refine EL_do .plain rfl (D_storeOc (g:=cM) (v:=sD) Tryz.sizeOf98 rfl b198 rfl z9 fun zH dM hs b200 cb=>?_)
      clear cb
      have hfr:=hfr.stp hs
      have x6:=x6.stp hs
      have y6:=y6.stp hs rfl
      have x5:=x5.stp hs
      have l5:=l5.stp hs
      have t5:=t5.stp hs rfl
      have u3:=u3.stp hs
      have b195:=b195.stp hs rfl
      have o0:=o0.stp hs
      have b199:=b199.stp hs rfl
      refine EL_nil (thn_n (L_loadO0 (x:=.tmp 14) Tryz.isAgg92 Tryz.sizeOf92 b199 fun aI yF xJ=>?_))
      obtain ⟨dH,yJ,h⟩:=bsome h
      refine L_loadO0 (x:=.tmp 15) Tryz.isAgg98 Tryz.sizeOf98 b200 fun bI zF zJ=>?_
      refine E_drawC (g:=zH) (w:=dM) (n:=6) [0,1,4,5] [2014,2015] [0,1,2,3,4,5] rfl mixed (by kernel_rfl) fun w_c209 hs hlt=>?_
      have hfr:=hfr.ext hs
      have x6:=x6.ext hs
      have y6:=y6.ext hs
      have x5:=x5.ext hs
      have l5:=l5.ext hs
      have t5:=t5.ext hs
      have u3:=u3.ext hs
      have b195:=b195.ext hs
      have o0:=o0.ext hs
      clear hs
      refine CH_pur (c:=nB) rfl rfl .plain (P_move xH) ?_
      refine CH_ldO (n:=2014) (c:=aI) rfl rfl .plain xJ rfl rfl ?_
      have yF:=yF.ch hlt.1
      refine CH_do rfl rfl .plain (D_buildSlice (g:=zH) 3075 (xs:=([iD.1]:List BoxPick)) (vs:=[aI]) Tryz.underlying49 Tryz.sizeOf92 Tryz.zeroValue92 rfl rfl (.cons rfl .nil) (RVs.cons yF RVs.nil) rfl rfl fun eM zO aP hs o211 iM hxt hfl=>?_)
      have hfr:=hfr.stp hs
      have hlt:=hlt.stp hs
      have x6:=x6.stp hs
      have y6:=y6.stp hs rfl
      have x5:=x5.stp hs
      have l5:=l5.stp hs
      have t5:=t5.stp hs rfl
      have u3:=u3.stp hs
      have b195:=b195.stp hs rfl
      have o0:=o0.stp hs
      refine ⟨hlt.toW,?_⟩
      refine CH_do rfl rfl .plain (D_append (g:=eM) (i:=1004) Tryz.underlying49 info_92 rfl rfl y6 x6 rfl iM yJ fun jM bP dI hs o212 aG _=>?_)
      have hfr:=hfr.stp hs
      have hlt:=hlt.stp hs
      have x5:=x5.stp hs
      have l5:=l5.stp hs
      have t5:=t5.stp hs rfl
      have u3:=u3.stp hs
      have b195:=b195.stp hs rfl
      have o0:=o0.stp hs
      refine ⟨hlt.toW,?_⟩
      refine CH_ldO (n:=2015) (c:=bI) rfl rfl .plain zJ rfl rfl ?_
      have zF:=zF.ch hlt.1
      refine CH_pur (c:=dI) rfl rfl .plain (P_assign rfl) ?_
      refine CH_nil ?_
      clear hlt
      refine EL_do .plain rfl (D_storeOc (g:=jM) (v:=bI) Tryz.sizeOf98 gD t5 rfl zF fun kM cP hs b215 cb=>?_)
      clear cb
      have hfr:=hfr.stp hs
      have aG:=aG.stp hs
      have o212:=o212.stp hs rfl
      have x5:=x5.stp hs
      have l5:=l5.stp hs
      have u3:=u3.stp hs
      have b195:=b195.stp hs rfl
      have o0:=o0.stp hs
      refine EL_nil (blk_n ?_)
      obtain ⟨rfl,rfl,rfl⟩:=pairs3 h
      exact hQ _ _ ⟨kM,(dI),hfr,rfl,aG,o212,yH,yE,x5,xD,l5,gD,b215,u3,b195,o0⟩
     ·clear hx
      obtain ⟨iI,jI,hfr,kI,yB,zB,lI,mI,cC,yG,iB,zG,aH,i7,g8,m7⟩:=hR
      refine E_seq (E_region (EL_do .plain rfl (D_loadO (g:=iI) Tryz.isAgg98 Tryz.sizeOf98 zG aH fun mM bG=>?_)))
      refine EL_nil (thn_n (E_region (EL_do .plain rfl (D_allocOc (g:=iI) 2013 (⟨0,0,⟨(⟨List.toArray [(⟨List.toArray [0,0,0,0],rfl⟩:Vector Int 4),(⟨List.toArray [0,0,0,0],rfl⟩:Vector Int 4)],rfl⟩:Vector (Vector Int 4) 2),⟨0,0⟩⟩⟩:BoxPoint) Tryz.zeroValue98 (fun m w=>⟨_,(rep_two rep_int (rep_two rep_int (rep_two (rep_vec (flat_chunk (rep_vec (flat_chunk rep_int (flat_chunk rep_int (flat_chunk rep_int (flat_chunk rep_int flat_nil)))) rfl) (flat_chunk (rep_vec (flat_chunk rep_int (flat_chunk rep_int (flat_chunk rep_int (flat_chunk rep_int flat_nil)))) rfl) flat_nil)) rfl) (rep_two rep_int rep_int)))),rfl⟩) fun nM dP oM hs b218 cb=>?_))))
      have hfr:=hfr.stp hs
      have yB:=yB.stp hs
      have zB:=zB.stp hs rfl
      have cC:=cC.stp hs
      have iB:=iB.stp hs
      have i7:=i7.stp hs
      have g8:=g8.stp hs rfl
      have m7:=m7.stp hs
      have bG:=bG.stp hs
      clear cb
      refine EL_do .plain rfl (D_storeOc (g:=nM) (v:=mM) Tryz.sizeOf98 rfl b218 rfl bG fun pM eP hs b219 cb=>?_)
      clear cb
      have hfr:=hfr.stp hs
      have yB:=yB.stp hs
      have zB:=zB.stp hs rfl
      have cC:=cC.stp hs
      have iB:=iB.stp hs
      have i7:=i7.stp hs
      have g8:=g8.stp hs rfl
      have m7:=m7.stp hs
      exact EL_nil (thn_n (rJ (mB,mC,r8) _ _ ⟨pM,(jI),(oM),hfr,kI,yB,zB,lI,mI,cC,yG,iB,rfl,b219,i7,g8,m7⟩ h))
   ·clear hx
    obtain ⟨gP,zE,hfr,nI,pI,mN,qI,sI,uI,tI⟩:=hR
    refine E_seq (E_region (EL_mv nI rfl ?_))
    refine EL_mv qI rfl ?_
    refine EL_at zE rfl rfl ?_
    refine EL_at (.int .i64 (rC.1)) rfl rfl ?_
    refine EL_at (.int .i64 (0)) rfl rfl ?_
    refine EL_at (.int .i64 (0)) rfl rfl ?_
    refine EL_nil (thn_n (E_ret ?_))
    obtain rfl:=sinj h
    exact end4 rfl rfl (show _=zE from rfl) (show _=.int .i64 (rC.1) from rfl) (show _=.int .i64 (0) from rfl) (show _=.int .i64 (0) from rfl) ⟨_,hfr,_,_,_,_,rfl,pI,rfl,rfl,rfl⟩
theorem W36 {iO:Nat} {gI:Gh} {wI:World} {x0:List Int} {up0:Value} (rp0:RV gI.m wI x0 up0) {r:List Int} (h:f36 x0=some r):FnG Tryz.prog 36 #[up0] gI wI (fun g w v=>OWx (Ow.list 3 (Ow.sh Int)) iO g w r v):=by
 unfold f36 at h
 refine fnG_of_E Tryz.func36 rfl (Nat.le_of_ble_eq_true rfl) fun g0 hm hfr=>?_
 have rp0:RV g0.m wI x0 up0:=hm ▸ rp0
 show E _ 8 none _ _ _ _ _
 refine E_seq (E_region (EL_at (.slice none 0 0) rfl rfl (EL_nil (thn_n ?_))))
 refine E_seq (E_seq (E_region (EL_mw up0 rfl rfl ?_)))
 obtain ⟨a,c,hv,hc,hrow⟩:=RV_list rp0
 refine EL_p (.bool a.isNone) (P_slnil Tryz.underlying27 (show ev _ _=_ from hv)) rfl (EL_nil (thn_n ?_))
 cases a with
 | none=>
  have hx:x0=[]:=by
   cases x0 with
   | nil=>rfl
   | cons y ys=>obtain ⟨b,off,hb,_⟩:=hrow (by simp); cases hb
  subst hx
  have hr:r=[]:=by unfold apnd at h; split at h <;> simp at h; exact h
  subst hr
  refine E_cond_true rfl (E_seq (E_region ?_))
  refine EL_at (.slice none 0 0) rfl rfl (EL_nil (thn_n ?_))
  obtain ⟨sk,ow,ok⟩:=OA.toW (OA.nil:OA 1 g0 wI 3 ([]:List Int) (.slice none 0 0))
  obtain ⟨gh,hxh,_,homh⟩:=OW.hand (i:=iO) hfr ow ok; exact E_ret (thn_r (end1 rfl rfl (show _=.slice none 0 0 from rfl) ⟨gh,hxh,homh⟩))
 | some a=>
  refine E_cond_false rfl (E_skip (thn_n ?_))
  refine E_seq (E_region (EL_do .plain rfl (D_buildSlice (g:=g0) 1 (xs:=([]:List Int)) (vs:=[]) Tryz.underlying27 Tryz.sizeOf3 Tryz.zeroValue3 rfl rfl .nil RVs.nil rfl rfl fun g1 w1 v1 hs o1 r1 hxt hfl=>?_)))
  have hfr:=hfr.stp hs
  have rp0:=rp0.stp hs
  refine EL_mw up0 rfl rfl ?_
  refine EL_do .plain rfl (D_appendE (g:=g1) plain_int (i:=1) Tryz.underlying27 info_3 rfl rfl o1 hfl rfl rp0 h fun g2 w2 v2 hs b2=>?_)
  have hfr:=hfr.ext hs
  refine EL_at v2 rfl rfl (EL_nil (thn_n ?_))
  obtain ⟨sk,ow,ok⟩:=OA.toW b2
  obtain ⟨gh,hxh,_,homh⟩:=OW.hand (i:=iO) hfr ow ok; exact E_ret (end1 rfl rfl (show _=v2 from rfl) ⟨gh,hxh,homh⟩)
end Go.Proofs.YtkfdjkkbnfohjaaGreat
