import Derived.Test.YtmebkoemfjlbcaaGreatDoorCode2
set_option maxRecDepth 8000
set_option maxHeartbeats 4000000
namespace Go.Proofs.YtmebkoemfjlbcaaGreatDoor
open Go.RowKit
theorem idx_lt {α:Type} {xs:List α} {i:Int} {a:α} (h:idx xs i=some a):i.toNat < xs.length:=(List.getElem?_eq_some_iff.1 (idx_some h).2).1
theorem set_self {α:Type} {xs:List α} {i:Int} {a:α} (h:idx xs i=some a):xs.set i.toNat a=xs:=by
 have h1:=(List.getElem?_eq_some_iff.1 (idx_some h).2);obtain ⟨hl,rfl⟩:=h1;exact List.set_getElem_self hl
theorem idx_setS {α:Type} {xs:List α} {i:Int} {a b:α} (h:idx xs i=some a):idx (xs.set i.toNat b) i=some b:=by
 have h0:=(idx_some h).1;have hl:=idx_lt h;unfold idx at h ⊢;simp [h0,hl]
theorem P_nilE {P:Program} {e:Env} {x:Operand} {p:Value} (hx:ev e x=p) (hp:∃ b o,p=.pointer (some ⟨b,o,none⟩)):Pur P (.nilCheck x) e p:=by
 obtain ⟨b,o,rfl⟩:=hp; exact P_nilCheck hx
theorem lay_167w:layoutOf Tryz.prog 167=some ([Iz 0,Iz 0],[(0,1),(1,1)]):=by kernel_rfl
theorem lay_24w:layoutOf Tryz.prog 24=some ([Iz 0,.slice none 0 0],[(0,1),(1,1)]):=by kernel_rfl
def f96 (cy:BookCylinder) (m:BookMill) (c:BookCloth):Option ((List Str) × Int × BookCylinder):=
 (idx m.Chains c.Chain).bind fun ch=>(idx m.Ties c.Tie).bind fun ti=>
 bif ch.Chain.Hooks != ti.Harness.Hooks then some ([],4,cy) else
 Option.bind (some (bif cy.chain != w64 (c.Chain + (1:Int)) then ⟨w64 (c.Chain + (1:Int)),0⟩ else cy)) fun c1=>
 (f136 [1] c.Picks).bind fun pk=>(f135 ch.Chain c1.card pk).bind fun wv=>
 bif wv.2.2 != (0:Int) then some ([],wv.2.2,c1) else
 (f137 ti.Harness ⟨ch.Chain.Hooks,wv.1⟩).bind fun t=>some (t.1,t.2,{ c1 with card:=wv.2.1 })
theorem en96:Enters Tryz.prog 96:=enters_of Tryz.func96 (by kernel_rfl) rfl
theorem wk96 {iI : Nat} {gI : Gh} {wI : World} {xs : List BookCylinder} {pv : Value} {i : Int} {cy : BookCylinder} {m : BookMill} {c : BookCloth} {um uc : Value} (mp0 : OM iI gI wI 167 xs pv) (hi : idx xs i = some cy) (rm : RV gI.m wI m um) (rc : RV gI.m wI c uc) {r : (List Str) × Int × BookCylinder} (hf : f96 cy m c = some r) :
  FnM Tryz.prog 96 #[ePtr pv i 2,um,uc] iI gI wI (fun g w v=>∃ y0 y1,v=.tuple #[y0,y1]∧RV g.m w r.1 y0∧y1=Iz r.2.1∧OM iI g w 167 (xs.set i.toNat r.2.2) pv):=by
 unfold f96 at hf
 obtain ⟨ch,hch,hf⟩:=bsome hf
 obtain ⟨ti,hti,hf⟩:=bsome hf
 refine fnM_of_E Tryz.func96 rfl (Nat.le_of_ble_eq_true rfl) fun g0 hm hfr=>?_
 have mpI:=mp0
 replace mp0:=mp0.enter
 rw [← hm] at mp0
 replace hm:g0.m=gI.m:=by rw [hm]
 replace rm:RV g0.m wI m um:=hm ▸ rm
 replace rc:RV g0.m wI c uc:=hm ▸ rc
 show E _ 75 none _ _ _ _ _
 refine E_sr (EL_d0 rfl (D_box (g:=g0) rfl rm fun g1 w1 pm hx1 qm=>(EL_d0 rfl (D_box (g:=g1) rfl (rc.ext hx1) fun g2 w2 pc hx2 qc=>?_))))
 have hfr:=(hfr.ext hx1).ext hx2
 have mp:=(mp0.ext hx1).ext hx2
 have qm:=qm.ext hx2
 refine Zg (.slice none 0 0) rfl rfl (Zg (Iz 0) rfl rfl (EL_nt (Zf ?_)))
 clear mp0 hx1 hx2
 -- region 1: the chain and the tie
 have qch:=Zm part_BookMill_1.1 qm
 refine Zs (x:=.tmp 13) Tryz.isAgg37 Tryz.sizeOf37 qch fun vch rch hch1=>?_
 have qti:=Zm part_BookMill_0.1 qm
 refine Zs (x:=.tmp 20) Tryz.isAgg36 Tryz.sizeOf36 qti fun vti rti hti1=>(Zs (x:=.tmp 15) Tryz.isAgg3 Tryz.sizeOf3 (Zm part_BookCloth_2.1 qc) fun v0 r0 hc3=>?_)
 obtain rfl:=Zj.1 r0
 refine Zs (x:=.tmp 22) Tryz.isAgg3 Tryz.sizeOf3 (Zm part_BookCloth_3.1 qc) fun v0 r0 hc4=>?_
 obtain rfl:=Zj.1 r0
 have qe:=PT_idx rch hch
 refine Zs (x:=.tmp 18) Tryz.isAgg92 Tryz.sizeOf92 (Zm part_BookChain_1.1 qe) fun vb rb hb1=>?_
 have qt:=PT_idx rti hti
 refine Zs (x:=.tmp 25) Tryz.isAgg106 Tryz.sizeOf106 (Zm part_BookTie_1.1 qt) fun vh rh hh1=>(E_drawTL (g:=g2) (n:=16) [7,8,9,10,11,12,13] [(14,fun v g w=>OB 8 g w 92 (⟨0,[]⟩:ChainBelt) v),(15,fun v g w=>OB 9 g w 106 (⟨0,[]⟩:TieHarness) v)] [0,1,2,3,4,5,6,7,8,9,10,11,12,13,14,15] rfl mixedS (by kernel_rfl) ⟨fun _=>(fun _ _ _ _ hx h=>OB.ext h hx),fun _=>(fun _ _ _ _ hx h=>OB.ext h hx),trivial⟩ rfl (L_p (fPtr pm 1) rfl rfl (Zc at_39_1 rfl (PT.ptr qm)) (L_ld (c:=vch) rfl rfl .plain (fun _ _ h=>h.ch) hch1 rfl (L_p (fPtr pc 2) rfl rfl (Zc at_63_2 rfl (PT.ptr qc)) (L_ld (c:=Iz c.Chain) rfl rfl .plain (fun _ _ h=>h.ch) hc3 rfl (L_p (ePtr vch c.Chain 3) rfl rfl (Zh (α:=BookChain) Tryz.underlying37 Tryz.sizeOf94 rfl rch rfl hch) (L_p (fPtr (ePtr vch c.Chain 3) 1) rfl rfl (Zc at_94_1 rfl (PT.ptr qe)) (L_ld (c:=vb) rfl rfl .plain (fun _ _ h=>h.ch) hb1 rfl (L_purL (c:=fPtr pm 0) rfl rfl .plain (Zc at_39_0 rfl (PT.ptr qm)) (L_ldL (c:=vti) rfl rfl .plain (fun _ _ h=>h.ch) rfl hti1 rfl (L_purL (c:=fPtr pc 3) rfl rfl .plain (Zc at_63_3 rfl (PT.ptr qc)) (L_ldL (c:=Iz c.Tie) rfl rfl .plain (fun _ _ h=>h.ch) rfl hc4 rfl (L_purL (c:=ePtr vti c.Tie 3) rfl rfl .plain (Zh (α:=BookTie) Tryz.underlying36 Tryz.sizeOf108 rfl rti rfl hti) (L_purL (c:=fPtr (ePtr vti c.Tie 3) 1) rfl rfl .plain (Zc at_108_1 rfl (PT.ptr qt)) (L_ldL (c:=vh) rfl rfl .plain (fun _ _ h=>h.ch) rfl hh1 rfl (L_do (φ:=fun v g w=>OB 8 g w 92 (⟨0,[]⟩:ChainBelt) v) rfl rfl .plain (fun g w hd=>D_allocX (g:=g) 8 (⟨0,[]⟩:ChainBelt) Tryz.zeroValue92 (fun m w=>⟨_,rep_two rep_int rep_nil,rfl⟩) fun g' w' p hs hr=>⟨g',hs,hr⟩) (fun p8 hv=>?_)))))))))))))))))
 clear hv
 refine L_do (φ:=fun v g w=>OB 9 g w 106 (⟨0,[]⟩:TieHarness) v) rfl rfl .plain (fun g w hd=>D_allocX (g:=g) 9 (⟨0,[]⟩:TieHarness) Tryz.zeroValue106 (fun m w=>⟨_,rep_two rep_int rep_nil,rfl⟩) fun g' w' p hs hr=>⟨g',hs,hr⟩) (fun p9 hv=>?_)
 clear hv
 refine L_nil fun g3 w3 hall=>?_
 have hs:=hall.1
 have b8:=word_all (A:=fun g w=>OB 8 g w 92 (⟨0,[]⟩:ChainBelt) p8) 14 rfl hall
 have b9:=word_all (A:=fun g w=>OB 9 g w 106 (⟨0,[]⟩:TieHarness) p9) 15 rfl hall
 have hlt:Lt g2.m w2 g3 w3:=hs.ch
 clear hall
 refine TL_do hlt.w .plain rfl (D_storeO (g:=g3) (v:=vb) Tryz.sizeOf92 rfl b8 rfl (rb.ext hs) fun g4 w4 hs4 b8=>?_)
 have hlt:=hlt.stp hs4
 refine TL_do hlt.w .plain rfl (D_storeO (g:=g4) (v:=vh) Tryz.sizeOf106 rfl (b9.stp hs4 rfl) rfl ((rh.ext hs).stp hs4) fun g5 w5 hs5 b9=>?_)
 have hlt:=hlt.stp hs5
 refine TL_nil hlt.w (Zd ?_)
 obtain ⟨g6,hs6,q8⟩:=(b8.stp hs5 rfl).pub
 obtain ⟨g7,hs7,q9⟩:=(b9.stp hs6 rfl).pub
 have q8:=q8.stp hs7
 have hfr:=((((hfr.ext hs).stp hs4).stp hs5).stp hs6).stp hs7
 have mp:=((((mp.ext hs).stp hs4 rfl).stp hs5 rfl).stp hs6 rfl).stp hs7 rfl
 have qc:=((((qc.ext hs).stp hs4).stp hs5).stp hs6).stp hs7
 clear hlt hs hs4 hs5 hs6 hs7 b8 b9 rb rh hch1 hti1 hc3 hc4 hb1 hh1 qch qti qe qt rch rti
 -- region 2: the hooks
 refine Zf (E_sr (EL_p (fPtr p8 0) (Zc at_92_0 rfl (PT.ptr q8)) rfl (EL_d0 rfl (D_load (g:=g7) Tryz.isAgg3 Tryz.sizeOf3 rfl (Zm part_ChainBelt_0.1 q8) fun v r=>?_))))
 obtain rfl:=Zj.1 r
 refine EL_p (fPtr p9 0) (Zc at_106_0 rfl (PT.ptr q9)) rfl (EL_d0 rfl (D_load (g:=g7) Tryz.isAgg3 Tryz.sizeOf3 rfl (Zm part_TieHarness_0.1 q9) fun v r=>?_))
 obtain rfl:=Zj.1 r
 refine EL_in (.bool (ch.Chain.Hooks != ti.Harness.Hooks)) rfl rfl rfl rfl (EL_nt ?_)
 rcases Zt hf with ⟨hc,hf⟩ | ⟨hc,hf⟩
 ·refine E_ct hc rfl (E_sr (Zg (.slice none 0 0) rfl rfl (Zg (Iz 4) rfl rfl (EL_nt (E_ret ?_)))))
  obtain rfl:=sinj hf
  exact end2 rfl rfl rfl rfl ⟨_,hfr,_,_,rfl,RV_nil,rfl,by rw [set_self hi]; exact mpI.back mp⟩
 refine E_cf hc rfl (Zu (Zd ?_))
 obtain ⟨c1,hc1,hf⟩:=bsome hf
 obtain ⟨pk,hpk,hf⟩:=bsome hf
 obtain ⟨wv,hwv,hf⟩:=bsome hf
 -- region 4: another chain on the loom
 refine E_joinD (fun e ds w'=>ds=[]∧e 0=ePtr pv i 2∧e 5=pc∧e 8=p8∧e 9=p9∧∃ g',FrM iI gI wI g' w'∧Ch g7.m w5 g'.m w'∧OM 1 g' w' 167 (xs.set i.toNat c1) pv) (fun Q' hQ=>?_) (fun e ds w' hR=>?_)
 ·have hpp := mp.ptrE (k := 2) hi
  refine Zf (L_loadMF (x:=.tmp 34) part_BookCylinder_0.1 Tryz.isAgg3 Tryz.sizeOf3 mp hi fun v r hl1=>?_)
  obtain rfl:=Zj.1 r
  refine Zs (x:=.tmp 36) Tryz.isAgg3 Tryz.sizeOf3 (Zm part_BookCloth_2.1 qc) fun v r hl2=>?_
  obtain rfl:=Zj.1 r
  refine E_drawL (g:=g7) (n:=8) [] [0,1,2,3,4,5,6,7] rfl mixedS (by kernel_rfl) trivial (L_p (ePtr pv i 2) rfl rfl (Zk rfl) (L_p (ePtr pv i 2) rfl rfl (P_nilE rfl hpp) (L_p (fPtr (ePtr pv i 2) 0) rfl rfl (Zc at_167_0 rfl hpp) (L_ld (c:=Iz cy.chain) rfl rfl .plain (fun _ _ h=>⟨h.ch,fun b hb _=>h.below.block b hb⟩) hl1 rfl (L_p (fPtr pc 2) rfl rfl (Zc at_63_2 rfl (PT.ptr qc)) (L_ld (c:=Iz c.Chain) rfl rfl .plain (fun _ _ h=>h.ch) hl2 rfl (L_p (Iz (w64 (c.Chain + (1:Int)))) rfl rfl (P_int rfl rfl rfl) (L_p (.bool (cy.chain != w64 (c.Chain + (1:Int)))) rfl rfl (P_int rfl rfl rfl) (L_nil fun g8 w8 hall=>?_)))))))))
  have hs:=hall.1
  refine EL_nt ?_
  rcases Bool.eq_false_or_eq_true (cy.chain != w64 (c.Chain + (1:Int))) with hq | hq
  ·rw [hq] at hc1
   obtain rfl:=sinj hc1
   refine E_ct hq rfl (Za (Zn (ePtr pv i 2) rfl rfl (EL_p (fPtr pc 2) (Zc at_63_2 rfl (PT.ptr qc)) rfl (EL_d0 rfl (D_load (g:=g8) Tryz.isAgg3 Tryz.sizeOf3 rfl (Zm part_BookCloth_2.1 (qc.ext hs)) fun v r=>?_)))))
   obtain rfl:=Zj.1 r
   refine EL_in (Iz (w64 (c.Chain + (1:Int)))) rfl rfl rfl rfl (EL_p (.agg #[Iz (w64 (c.Chain + (1:Int))),Iz 0]) (show Pur _ _ _ (.agg #[Iz (w64 (c.Chain + (1:Int))),Iz 0]) from P_build (vs:=[(0,Iz (w64 (c.Chain + (1:Int))))]) [[Iz 0],[Iz 0]] lay_167w rfl rfl (.cons rfl .nil) ⟨⟨_,rfl,rfl⟩,trivial⟩) rfl (EL_p (ePtr pv i 2) (P_nilE rfl hpp) rfl (EL_d0 rfl (D_storeM (g:=g8) (α:=BookCylinder) (a':=⟨w64 (c.Chain + (1:Int)),0⟩) (u:=.agg #[Iz (w64 (c.Chain + (1:Int))),Iz 0]) Tryz.sizeOf167 rfl (mp.ext hs) hi rfl ⟨_,rep_two rep_int rep_int,rfl⟩ fun g9 w9 hs9 mp9=>?_))))
   exact Zb (hQ _ _ _ ⟨rfl,rfl,rfl,rfl,rfl,g9,(hfr.ext hs).stp hs9,hs.ch.trans hs9.ch,mp9⟩)
  ·rw [hq] at hc1
   obtain rfl:=sinj hc1
   exact E_cf hq rfl (Zu (hQ _ _ _ ⟨rfl,rfl,rfl,rfl,rfl,g8,hfr.ext hs,hs.ch,by show OM 1 g8 w8 167 (xs.set i.toNat cy) pv; rw [set_self hi]; exact mp.ext hs⟩))
 obtain ⟨rfl,e0,e5,e8,e9,g,hfrN,hch7,mpN⟩:=hR
 replace hfr:=hfrN
 replace mp:=mpN
 have q8:=q8.ch hch7
 have q9:=q9.ch hch7
 have qc:=qc.ch hch7
 have hi1:=idx_setS (b:=c1) hi
 have hpp:=mp.ptrE (k:=2) hi1
 clear hfrN mpN hch7 hc1
 -- region 6: the picks of the chain
 refine Zf (Zs (x:=.tmp 8) Tryz.isAgg92 Tryz.sizeOf92 q8 fun vb rb hb1=>(L_loadMF (x:=.tmp 50) part_BookCylinder_1.1 Tryz.isAgg3 Tryz.sizeOf3 mp hi1 fun v r hl1=>?_))
 obtain rfl:=Zj.1 r
 refine Zs (x:=.tmp 53) Tryz.isAgg3 Tryz.sizeOf3 (Zm part_BookCloth_4.1 qc) fun v r hl2=>?_
 obtain rfl:=Zj.1 r
 refine E_drawTL (g:=g) (n:=14) [12,13] [(5,fun v g w=>RV g.m w ([1]:List Int) v),(8,fun v g w=>RV g.m w pk v),(9,fun v g w=>∃ y0 y1 y2,v=.tuple #[y0,y1,y2]∧RV g.m w wv.1 y0∧y1=Iz wv.2.1∧y2=Iz wv.2.2)] [0,1,2,3,4,5,6,7,8,9,10,11,12,13] rfl mixedS (by kernel_rfl) ⟨fun _=>up_rv,fun _=>up_rv,fun _=>(fun _ _ _ _ hx h=>let ⟨y0,y1,y2,h1,h2,h3⟩:=h; ⟨y0,y1,y2,h1,RV.ext h2 hx,h3⟩),trivial⟩ rfl (L_ld (c:=vb) rfl rfl .plain (fun _ _ h=>h.ch) hb1 e8 (L_p (ePtr pv i 2) rfl rfl (Zk e0) (L_p (ePtr pv i 2) rfl rfl (P_nilE rfl hpp) (L_p (fPtr (ePtr pv i 2) 1) rfl rfl (Zc at_167_1 rfl hpp) (L_ld (c:=Iz c1.card) rfl rfl .plain (fun _ _ h=>⟨h.ch,fun b hb _=>h.below.block b hb⟩) hl1 rfl (L_do (φ:=fun v g w=>RV g.m w ([1]:List Int) v) rfl rfl .plain (fun g w hd=>D_buildSlice (g:=g) 5 (xs:=([1]:List Int)) (vs:=[Iz 1]) Tryz.underlying22 Tryz.sizeOf3 Tryz.zeroValue3 rfl rfl (.cons rfl .nil) (RVs.cons (Zj.2 rfl) RVs.nil) rfl rfl fun g' w' v _ _ r hx _=>⟨g',hx,r⟩) (fun v5 hv=>?_)))))))
 clear hv
 refine L_p (fPtr pc 4) rfl rfl (Zc at_63_4 e5 (PT.ptr qc)) (L_ld (c:=Iz c.Picks) rfl rfl .plain (fun _ _ h=>h.ch) hl2 rfl (L_do (φ:=fun v g w=>RV g.m w pk v) rfl rfl .plain (fun g w hd=>Zp (g:=g) (vs:=[v5,Iz c.Picks]) en136 (.cons rfl (.cons rfl .nil)) (wk136 (word (A:=fun g w=>RV g.m w ([1]:List Int) v5) 5 rfl rfl (deps_of hd)) hpk) fun g' w' v hs hr=>⟨g',hs,hr⟩) (fun v8 hv=>?_)))
 clear hv
 refine L_do (φ:=fun v g w=>∃ y0 y1 y2,v=.tuple #[y0,y1,y2]∧RV g.m w wv.1 y0∧y1=Iz wv.2.1∧y2=Iz wv.2.2) rfl rfl .plain (fun g w hd=>Zp (g:=g) (vs:=[vb,Iz c1.card,v8]) en135 (.cons rfl (.cons rfl (.cons rfl .nil))) (wk135 (rb.ext hd.1) (word (A:=fun g w=>RV g.m w pk v8) 8 rfl rfl (deps_of hd)) hwv) fun g' w' v hs hr=>⟨g',hs,hr⟩) (fun v9 hv=>?_)
 obtain ⟨_,_,_,y0,y1,y2,rfl,_,rfl,rfl⟩:=hv
 refine L_p (.tuple #[y0,Iz wv.2.1,Iz wv.2.2]) rfl rfl (Zk rfl) (L_p y0 rfl rfl (Zi rfl rfl) (L_purL (c:=Iz wv.2.1) rfl rfl .plain (Zi rfl rfl) (L_purL (c:=Iz wv.2.2) rfl rfl .plain (Zi rfl rfl) (L_nil fun g10 w10 hall=>?_))))
 have hs:=hall.1
 have ry:RV g10.m w10 wv.1 y0:=by
  obtain ⟨a0,a1,a2,ha,hb,_⟩:=word_all (A:=fun g w=>∃ a0 a1 a2,(Value.tuple #[y0,Iz wv.2.1,Iz wv.2.2])=.tuple #[a0,a1,a2]∧RV g.m w wv.1 a0∧a1=Iz wv.2.1∧a2=Iz wv.2.2) 9 rfl hall
  injection ha with ha
  have h1:[y0,Iz wv.2.1,Iz wv.2.2]=[a0,a1,a2]:=congrArg Array.toList ha
  injection h1 with h0 _
  exact h0 ▸ hb
 have hlt:Lt g.m w' g10 w10:=hs.ch
 clear hall
 refine TL_pur hlt.w (v:=y0) (P_assign rfl) .plain rfl (TL_pur hlt.w (v:=Iz wv.2.1) (P_assign rfl) .plain rfl (TL_pur hlt.w (v:=Iz wv.2.2) (P_assign rfl) .plain rfl (TL_nil hlt.w (Zd ?_))))
 replace hfr:=hfr.ext hs
 replace mp:=mp.ext hs
 replace q8:=q8.ext hs
 replace q9:=q9.ext hs
 clear hlt hs rb hb1 hl1 hl2 qc
 refine Zf (E_sr (Zn (Iz wv.2.2) rfl rfl (EL_in (.bool (wv.2.2 != (0:Int))) rfl rfl rfl rfl (EL_nt ?_))))
 rcases Zt hf with ⟨hc2,hf⟩ | ⟨hc2,hf⟩
 ·refine E_ct hc2 rfl (E_sr (Zn (Iz wv.2.2) rfl rfl (Zg (.slice none 0 0) rfl rfl (Zg (Iz wv.2.2) rfl rfl (EL_nt (E_ret ?_))))))
  obtain rfl:=sinj hf
  exact end2 rfl rfl rfl rfl ⟨_,hfr,_,_,rfl,RV_nil,rfl,mpI.back mp⟩
 refine E_cf hc2 rfl (Zu (Zd ?_))
 obtain ⟨tv,htv,hf⟩:=bsome hf
 obtain rfl:=sinj hf
 refine E_sr (Zo e0 rfl (Zn (Iz wv.2.1) rfl rfl (EL_p (ePtr pv i 2) (P_nilE rfl hpp) rfl (EL_p (fPtr (ePtr pv i 2) 1) (Zc at_167_1 rfl hpp) rfl (EL_d0 rfl (D_storeMF (g:=g10) (y0:=wv.2.1) part_BookCylinder_1 Tryz.sizeOf3 rfl mp hi1 rfl (Zj.2 rfl) fun g11 w11 hs11 mp11=>?_))))))
 rw [List.set_set] at mp11
 refine EL_nt (E_sr ?_)
 replace hfr:=hfr.stp hs11
 replace q8:=q8.stp hs11
 replace q9:=q9.stp hs11
 replace ry:=ry.stp hs11
 refine EL_d0 rfl (D_load (g:=g11) Tryz.isAgg106 Tryz.sizeOf106 e9 q9 fun vh rh=>(EL_p (fPtr p8 0) (Zc at_92_0 e8 (PT.ptr q8)) rfl (EL_d0 rfl (D_load (g:=g11) Tryz.isAgg3 Tryz.sizeOf3 rfl (Zm part_ChainBelt_0.1 q8) fun v r=>?_))))
 obtain rfl:=Zj.1 r
 refine Zn y0 rfl rfl ?_
 have rd:RV g11.m w11 (⟨ch.Chain.Hooks,wv.1⟩:Design) (.agg (setCh [[Iz 0],[.slice none 0 0]] [(0,Iz ch.Chain.Hooks),(1,y0)]).flatten.toArray):=RV_build rfl (rep_pair (rfl) (rep_last (RV.cells ry)))
 generalize hgd:(Value.agg (setCh [[Iz 0],[.slice none 0 0]] [(0,Iz ch.Chain.Hooks),(1,y0)]).flatten.toArray)=vd at rd
 refine EL_p vd (hgd ▸ P_build (vs:=[(0,Iz ch.Chain.Hooks),(1,y0)]) [[Iz 0],[.slice none 0 0]] lay_24w rfl rfl (.cons rfl (.cons rfl .nil)) ⟨⟨_,rfl,rfl⟩,⟨⟨_,rfl,cells_size ry⟩,trivial⟩⟩) rfl (EL_d0 rfl (Zp (g:=g11) (vs:=[vh,vd]) en137 (.cons rfl (.cons rfl .nil)) (wk137 rh rd htv) fun g12 w12 v12 hx12 hv=>?_))
 obtain ⟨z0,z1,rfl,rz,rfl⟩:=hv
 refine EL_p z0 (Zi rfl rfl) rfl (EL_p (Iz tv.2) (Zi rfl rfl) rfl (Zg z0 rfl rfl (Zg (Iz tv.2) rfl rfl (EL_nt (E_ret ?_)))))
 exact end2 rfl rfl rfl rfl ⟨_,hfr.ext hx12,_,_,rfl,rz,rfl,mpI.back (mp11.ext hx12)⟩

def f106 (x0:BookChain):Option (Bool):=
 (f107 ((x0).Chain)).bind fun y5=>
 some ((y5 != (0:Int)))
theorem en106:Enters Tryz.prog 106:=enters_of Tryz.func106 (by kernel_rfl) rfl
theorem wk106 {gI:Gh} {wI:World} {x0:BookChain} {up0:Value} (rp0:RV gI.m wI x0 up0) {r:Bool} (h:f106 x0=some r):Fn Tryz.prog 106 #[up0] gI wI (fun _ _ v=>v=.bool (r)):=by
 unfold f106 at h;refine fnE Tryz.func106 rfl rfl fun g0 hm hfr=>?_;have rp0:=RVc hm rp0;show E _ 7 none _ _ _ _ _;refine E_sr (EL_d0 rfl (D_box (g:=g0) rfl rp0 fun g1 w1 p1 hs q1=>?_));have hfr:=hfr.ext hs;refine Zg (.bool false) rfl rfl (EL_nt (E_sr (EL_p (fPtr p1 1) (Zc at_94_1 rfl (PT.ptr q1)) rfl ?_)));have q2:=Zm (part_BookChain_1).1 q1;refine EL_d0 rfl (D_load (g:=g1) Tryz.isAgg92 Tryz.sizeOf92 rfl q2 fun v3 r3=>?_);obtain ⟨y5,hy5,h⟩:=bsome h;refine EL_d0 rfl (Zp (g:=g1) (vs:=[v3]) en107 (.cons rfl .nil) (wk107 r3 hy5) fun g4 w4_ v4 hs hr=>?_);have hfr:=hfr.ext hs;subst hr;refine EL_in (.bool ((y5 != (0:Int)))) rfl rfl rfl rfl (Zg (.bool ((y5 != (0:Int)))) rfl rfl (EL_nt (E_ret ?_)));obtain rfl:=sinj h;exact end1 rfl rfl (rq (.bool ((y5 != (0:Int))))) ⟨_,hfr,rfl⟩
def f67 (x0:BookMill):Option (Int):=
 jn (σ:=Unit) (fun _=>
  (f108 ((x0).Ties) ((fun a0=>f109 a0))).bind fun aE=>
  (f110 ((x0).Chains) ((fun a0=>f111 a0))).bind fun bE=>
  jn (σ:=Unit) (fun _=>
   some ((0:Int))
   ) fun iE=>
  Option.bind (α:=Bool) (
   (f112 aE).bind fun lB=>
   bif (!lB) then
    some (true)
   else
    (f112 bE).bind fun aB=>
    bif (!aB) then
     some (true)
    else
     (f113 ((x0).Ties) ((fun a0=>f104 a0))).bind fun mB=>
     bif mB then
      some (true)
     else
      (f114 ((x0).Chains) ((fun a0=>f106 a0))).bind fun cC=>
      some (cC)
   ) fun l5=>
  bif l5 then
   some ((2:Int))
  else
   iE ()
  ) fun k14=>
 Option.bind (α:=Bool) (
  bif (decide ((((x0).Ties).length : Int) > (8 : Int))) then
   some (true)
  else
   some ((decide ((((x0).Chains).length:Int) > (8:Int))))
  ) fun l9=>
 bif l9 then
  some ((5:Int))
 else
  k14 ()
theorem en67:Enters Tryz.prog 67:=enters_of Tryz.func67 (by kernel_rfl) rfl
theorem wk67 {gI:Gh} {wI:World} {x0:BookMill} {up0:Value} (rp0:RV gI.m wI x0 up0) {r:Int} (h:f67 x0=some r):Fn Tryz.prog 67 #[up0] gI wI (fun _ _ v=>v=Iz (r)):=by
 unfold f67 at h;refine fnE Tryz.func67 rfl rfl fun g0 hm hfr=>?_;have rp0:=RVc hm rp0;show E _ 43 none _ _ _ _ _;refine E_sr (EL_d0 rfl (D_box (g:=g0) rfl rp0 fun g1 w1 p1 hs q1=>?_));have hfr:=hfr.ext hs;refine Zg (Iz (0)) rfl rfl (EL_nt (Zq h (fun (s:Unit) e w=>∃ (g:Gh) ,Fr gI wI g w∧e 1=p1∧PT g.m w (x0:BookMill) p1) (fun X14 k14 rE h=>?_) ?_))
 ·obtain ⟨l9, hx, h⟩ := bsome h
  refine E_join (fun e w=>∃ (g:Gh) ,Fr gI wI g w∧e 1=p1∧PT g.m w (x0:BookMill) p1∧e 16=.bool (l9)) (fun Q' hQ=>?_) (fun aH sH hR=>?_)
  ·replace h := hx
   clear hx;refine Za (EL_p (fPtr p1 0) (Zc at_39_0 rfl (PT.ptr q1)) rfl ?_);have rF:=Zm (part_BookMill_0).1 q1;refine EL_d0 rfl (D_load (g:=g1) Tryz.isAgg36 Tryz.sizeOf36 rfl rF fun tH sF=>(EL_p (Iz (((x0).Ties).length:Int)) (P_len Tryz.underlying36 rfl sF) rfl (EL_p (.bool ((decide ((((x0).Ties).length:Int) > (8:Int))))) (P_int rfl rfl rfl) rfl (EL_p (.bool ((decide ((((x0).Ties).length:Int) > (8:Int))))) (Zk rfl) rfl ?_))));rcases Zt h with ⟨t5,h⟩ | ⟨t5,h⟩
   ·refine EL_s rfl rfl t5 rfl rfl ?_
    iterate 3 refine EL_s rfl rfl t5 rfl rfl ?_
    refine EL_p (.bool true) (Zl (b:=(decide ((((x0).Ties).length:Int) > (8:Int)))) rfl (pick_t t5 rfl)) rfl (Zb ?_);obtain rfl:=sinj h;exact hQ _ _ ⟨g1,hfr,rfl,q1,rfl⟩
   ·refine EL_y (fPtr p1 1) (Zc at_39_1 rfl (PT.ptr q1)) rfl rfl t5 rfl ?_
    have tF:=Zm (part_BookMill_1).1 q1;refine Ze (.yes2 rfl rfl t5) rfl (D_load (g:=g1) Tryz.isAgg37 Tryz.sizeOf37 rfl tF fun uH uF=>(EL_y (Iz (((x0).Chains).length:Int)) (P_len Tryz.underlying37 rfl uF) rfl rfl t5 rfl (EL_y (.bool ((decide ((((x0).Chains).length:Int) > (8:Int))))) (P_int rfl rfl rfl) rfl rfl t5 rfl (EL_p (.bool ((decide ((((x0).Chains).length:Int) > (8:Int))))) (Zl (b:=(decide ((((x0).Ties).length:Int) > (8:Int)))) rfl (pick_f t5 rfl)) rfl (Zb ?_)))));obtain rfl:=sinj h;exact hQ _ _ ⟨g1,hfr,rfl,q1,rfl⟩
  ·clear hx
   obtain ⟨vF,hfr,yD,zD,yB⟩:=hR;rcases Zt h with ⟨zB,h⟩ | ⟨zB,h⟩
   ·refine E_cond_true (Eq.trans (show ev _ _ = .bool (l9) from yB) (congrArg Value.bool zB)) (E_sr (Zg (Iz (5)) rfl rfl (EL_nt (E_ret (thn_r ?_)))))
    obtain rfl:=sinj h;exact end1 rfl rfl (rq (Iz (5))) ⟨_,hfr,rfl⟩
   ·refine E_cond_false (Eq.trans (show ev _ _ = .bool (l9) from yB) (congrArg Value.bool zB)) ?_
    exact Zu (Zd (rE () _ _ ⟨vF,hfr,yD,zD⟩ h))
 ·rintro _ cH xH ⟨lE, hfr, n9, o0⟩ h
  refine E_sr (Zg (.func (.func 104) #[] #[]) rfl rfl (EL_nt (E_sr (Zg (.func (.func 106) #[] #[]) rfl rfl (EL_nt (E_sr (EL_p (fPtr p1 0) (Zc at_39_0 n9 (PT.ptr o0)) rfl ?_)))))));have xF:=Zm (part_BookMill_0).1 o0;refine EL_d0 rfl (D_load (g:=lE) Tryz.isAgg36 Tryz.sizeOf36 rfl xF fun yF aG=>?_);obtain ⟨aE,uE,h⟩:=bsome h;refine EL_d0 rfl (Zp (g:=lE) (vs:=[yF,.func (.func 109) #[] #[]]) en108 (.cons rfl (.cons rfl .nil)) (wk108 aG ⟨109,#[],#[],rfl,en109,fun g' w' hch a0 b0 r hu0 hr=>by exact Fn.mono (wk109 hu0  hr) fun _ _ _ h=>RV_str.2 h⟩ uE) fun mE gH uC hs hr=>?_);have hfr:=hfr.ext hs;have o0:=o0.ext hs;have bD:=hr;refine Zg uC rfl rfl (EL_nt (E_sr (EL_p (fPtr p1 1) (Zc at_39_1 n9 (PT.ptr o0)) rfl ?_)));have bG:=Zm (part_BookMill_1).1 o0;refine EL_d0 rfl (D_load (g:=mE) Tryz.isAgg37 Tryz.sizeOf37 rfl bG fun cG eG=>?_);obtain ⟨bE,vE,h⟩:=bsome h;refine EL_d0 rfl (Zp (g:=mE) (vs:=[cG,.func (.func 111) #[] #[]]) en110 (.cons rfl (.cons rfl .nil)) (wk110 eG ⟨111,#[],#[],rfl,en111,fun g' w' hch a0 b0 r hu0 hr=>by exact Fn.mono (wk111 hu0  hr) fun _ _ _ h=>RV_str.2 h⟩ vE) fun gG jH cD hs hr=>?_);have hfr:=hfr.ext hs;have o0:=o0.ext hs;have bD:=bD.ext hs;have lD:=hr;refine Zg cD rfl rfl (EL_nt (Zq h (fun (s:Unit) e w=>∃ (g:Gh) ,Fr gI wI g w) (fun X69 iE xE h=>?_) ?_))
  ·obtain ⟨l5, hx, h⟩ := bsome h
   refine E_join (fun e w=>∃ (g:Gh) ,Fr gI wI g w∧e 42=.bool (l5)) (fun Q' hQ=>?_) (fun yG kH hR=>?_)
   ·replace h := hx
    clear hx;refine Za (Zn uC rfl rfl ?_);obtain ⟨lB,yE,h⟩:=bsome h;refine EL_d0 rfl (Zp (g:=gG) (vs:=[uC]) en112 (.cons rfl .nil) (wk112 bD yE) fun oE lH yH hs hr=>?_);have hfr:=hfr.ext hs;have o0:=o0.ext hs;have lD:=lD.ext hs;subst hr;refine EL_p (.bool (!lB)) (P_not rfl) rfl (Zn (.bool (!lB)) rfl rfl ?_);rcases Zt h with ⟨i6,h⟩ | ⟨i6,h⟩
    ·refine EL_s rfl rfl i6 rfl rfl (EL_s rfl rfl i6 rfl rfl (EL_s rfl rfl i6 rfl rfl (EL_p (.bool true) (Zl (b := (!lB)) rfl (pick_t i6 rfl)) rfl (EL_dead 12 rfl (Zb ?_)))))
     obtain rfl:=sinj h;exact hQ _ _ ⟨oE,hfr,rfl⟩
    ·refine EL_y cD (Zk rfl) rfl rfl i6 rfl ?_
     obtain ⟨aB,zE,h⟩:=bsome h;refine Ze (.yes2 rfl rfl i6) rfl (Zp (g:=oE) (vs:=[cD]) en112 (.cons rfl .nil) (wk112 lD zE) fun nD mH zH hs hr=>?_);have hfr:=hfr.ext hs;have o0:=o0.ext hs;subst hr;refine EL_y (.bool (!aB)) (P_not rfl) rfl rfl i6 rfl (EL_p (.bool (!aB)) (Zl (b:=(!lB)) rfl (pick_f i6 rfl)) rfl (Zn (.bool (!aB)) rfl rfl ?_));rcases Zt h with ⟨l8,h⟩ | ⟨l8,h⟩
     ·refine EL_s rfl rfl l8 rfl rfl ?_
      iterate 3 refine EL_s rfl rfl l8 rfl rfl ?_
      refine EL_p (.bool true) (Zl (b:=(!aB)) rfl (pick_t l8 rfl)) rfl (EL_dead 6 rfl (Zb ?_));obtain rfl:=sinj h;exact hQ _ _ ⟨nD,hfr,rfl⟩
     ·refine EL_y (fPtr p1 0) (Zc at_39_0 n9 (PT.ptr o0)) rfl rfl l8 rfl ?_
      have iG:=Zm (part_BookMill_0).1 o0;refine Ze (.yes2 rfl rfl l8) rfl (D_load (g:=nD) Tryz.isAgg36 Tryz.sizeOf36 rfl iG fun jG kG=>(EL_y (.func (.func 104) #[] #[]) (Zk rfl) rfl rfl l8 rfl ?_));obtain ⟨mB,cF,h⟩:=bsome h;refine Ze (.yes2 rfl rfl l8) rfl (Zp (g:=nD) (vs:=[jG,.func (.func 104) #[] #[]]) en113 (.cons rfl (.cons rfl .nil)) (wk113 kG ⟨104,#[],#[],rfl,en104,fun g' w' hch a0 b0 r hu0 hr=>by exact Fn.mono (wk104 hu0  hr) fun _ _ _ h=>RV_bool.2 h⟩ cF) fun oD nH aI hs hr=>?_);have hfr:=hfr.ext hs;have o0:=o0.ext hs;subst hr;refine EL_p (.bool (mB)) (Zl (b:=(!aB)) rfl (pick_f l8 rfl)) rfl (Zn (.bool (mB)) rfl rfl ?_);rcases Zt h with ⟨n8,h⟩ | ⟨n8,h⟩
      ·refine EL_s rfl rfl n8 rfl rfl ?_
       iterate 3 refine EL_s rfl rfl n8 rfl rfl ?_
       refine EL_p (.bool true) (Zl (b:=mB) rfl (pick_t n8 rfl)) rfl (Zb ?_);obtain rfl:=sinj h;exact hQ _ _ ⟨oD,hfr,rfl⟩
      ·refine EL_y (fPtr p1 1) (Zc at_39_1 n9 (PT.ptr o0)) rfl rfl n8 rfl ?_
       have lG:=Zm (part_BookMill_1).1 o0;refine Ze (.yes2 rfl rfl n8) rfl (D_load (g:=oD) Tryz.isAgg37 Tryz.sizeOf37 rfl lG fun mG sG=>(EL_y (.func (.func 106) #[] #[]) (Zk rfl) rfl rfl n8 rfl ?_));obtain ⟨cC,dF,h⟩:=bsome h;refine Ze (.yes2 rfl rfl n8) rfl (Zp (g:=oD) (vs:=[mG,.func (.func 106) #[] #[]]) en114 (.cons rfl (.cons rfl .nil)) (wk114 sG ⟨106,#[],#[],rfl,en106,fun g' w' hch a0 b0 r hu0 hr=>by exact Fn.mono (wk106 hu0  hr) fun _ _ _ h=>RV_bool.2 h⟩ dF) fun xG oH bI hs hr=>?_);have hfr:=hfr.ext hs;subst hr;refine EL_p (.bool (cC)) (Zl (b:=mB) rfl (pick_f n8 rfl)) rfl (Zb ?_);obtain rfl:=sinj h;exact hQ _ _ ⟨xG,hfr,rfl⟩
   ·clear hx
    obtain ⟨eF,hfr,nB⟩:=hR;rcases Zt h with ⟨oB,h⟩ | ⟨oB,h⟩
    ·refine E_cond_true (Eq.trans (show ev _ _ = .bool (l5) from nB) (congrArg Value.bool oB)) (E_sr (Zg (Iz (2)) rfl rfl (EL_nt (E_ret (thn_r ?_)))))
     obtain rfl:=sinj h;exact end1 rfl rfl (rq (Iz (2))) ⟨_,hfr,rfl⟩
    ·refine E_cond_false (Eq.trans (show ev _ _ = .bool (l5) from nB) (congrArg Value.bool oB)) ?_
     exact Zu (Zd (xE () _ _ ⟨eF,hfr⟩ h))
  ·rintro _ zG pH ⟨qH, hfr⟩ h
   refine E_sr (Zg (Iz (0)) rfl rfl (EL_nt (E_ret ?_)));obtain rfl:=sinj h;exact end1 rfl rfl (rq (Iz (0))) ⟨_,hfr,rfl⟩
theorem en116:Enters Tryz.prog 116:=enters_of Tryz.func116 (by kernel_rfl) rfl
theorem it_ok:ItOk Tryz.prog 116 1:=fun n h0 h1 w hT=>Tryz.strconv_Itoa n h0 h1 w (tabIs_of (by kernel_rfl) hT)
abbrev AnyT:=AnyV 3 9
theorem atW_0 (a:Addr) (w:World):(Instr.fieldAt 133 (.pointer (some a)) 0).run Tryz.prog w=.ok (.pointer (some (a.add 0))) w:=by simp [Instr.fieldAt,run_underlying Tryz.underlying133,Instr.sureAddr,fieldPlace,Result.andThen]
theorem atW_1 (a:Addr) (w:World):(Instr.fieldAt 133 (.pointer (some a)) 1).run Tryz.prog w=.ok (.pointer (some (a.add 2))) w:=by simp [Instr.fieldAt,run_underlying Tryz.underlying133,Instr.sureAddr,fieldPlace,Result.andThen]
theorem wcc {i : Nat} {g : Gh} {w : World} {b : Nat} {a v : Value} {n : Int} (hb : HBm i g w b (.cells #[a, v, Iz n] 133 (0, 0))) (ha : a = .pointer none ∨ a = .pointer (some ⟨b, 0, none⟩)) :
  Calls Tryz.prog 140 #[.pointer (some ⟨b,0,none⟩)] w fun r w'=>∃ u,r=.returned u∧Stp i g w g w'∧HBm i g w' b (.cells #[.pointer (some ⟨b,0,none⟩),v,Iz n] 133 (0,0))∧∀ k,k ≠ b→w'.heap[k]?=w.heap[k]?:=by
 obtain ⟨jt,hj,hjs⟩:=sb_psize
 have hsh:=hb.shape
 refine calls_of_E Tryz.func140 rfl (Nat.le_of_ble_eq_true rfl) ?_
 show E _ 20 none _ _ _ _ _
 refine E_sr (Zn (.pointer (some ⟨b,0,none⟩)) rfl rfl (EL_p (.pointer (some ⟨b,0,none⟩)) (P_nilCheck rfl) rfl (EL_p (.pointer (some ⟨b,0,none⟩)) (show Pur _ _ _ (fPtr (.pointer (some ⟨b,0,none⟩)) 0) from Zc atS_0 rfl ⟨b,0,rfl⟩) rfl (EL_d0 rfl (D_load1 Tryz.isAgg129 rfl (hb.cell.trans rfl) ?_)))))
 rcases ha with ha | ha
 ·subst ha
  refine EL_p (.bool true) (P_ptreq (u1:=.pointer none) (u2:=.pointer none) (.inl rfl) rfl rfl ⟨_,rfl⟩ ⟨_,rfl⟩ (fun w=>by simpa using run_eql_pointer_nil (P:=Tryz.prog) w 129 none Tryz.underlying129)) rfl (EL_nt (E_cond_true rfl (Za (Zn (.pointer (some ⟨b,0,none⟩)) rfl rfl (Zn (.pointer (some ⟨b,0,none⟩)) rfl rfl ?_)))))
  refine EL_val (v:=.pointer (some ⟨b,0,none⟩)) (w':=w) .plain (fun _ h=>by cases h) rfl (by
   have:=Lib.run_to_unsafe w ⟨b,0,none⟩ Tryz.underlying129 Tryz.underlying239 hj (by rw [hjs]; decide) hsh (by show 0 < 3; omega)
   show (Sem.run _ (execOp _ _) _)=_
   simp only [execOp,Sem.run_bind]
   rw [show ev _ (Operand.tmp 8)=Value.pointer (some ⟨b,0,none⟩) from rfl,this]
   rfl) ?_
  refine EL_p (.pointer (some ⟨b,0,none⟩)) (P_extern Tryz.func170 (by kernel_rfl) (by kernel_rfl) (by kernel_rfl) (ex:=Extern.AbiNoEscape.same) (by kernel_rfl) (.cons rfl .nil) (fun _=>rfl)) rfl ?_
  refine EL_val (v:=.pointer (some ⟨b,0,none⟩)) (w':=w) .plain (fun _ h=>by cases h) rfl (by
   have:=Lib.run_from_unsafe w ⟨b,0,none⟩ Tryz.underlying239 Tryz.underlying129 hj hsh (by kernel_rfl)
   show (Sem.run _ (execOp _ _) _)=_
   simp only [execOp,Sem.run_bind]
   rw [show ev _ (Operand.tmp 10)=Value.pointer (some ⟨b,0,none⟩) from rfl,this]
   rfl) ?_
  refine EL_p (.pointer (some ⟨b,0,none⟩)) (P_nilCheck rfl) rfl (EL_p (.pointer (some ⟨b,0,none⟩)) (show Pur _ _ _ (fPtr (.pointer (some ⟨b,0,none⟩)) 0) from Zc atS_0 rfl ⟨b,0,rfl⟩) rfl (EL_d0 rfl (D_store1 (c:=.pointer (some ⟨b,0,none⟩)) Tryz.sizeOf129 rfl rfl rfl (by simp) hb fun w1 hs hb1 hk=>(Zb ?_))))
  exact end0n rfl rfl ⟨hs,hb1,hk⟩
 ·subst ha
  refine EL_p (.bool false) (P_ptreq (u1:=.pointer (some ⟨b,0,none⟩)) (u2:=.pointer none) (.inl rfl) rfl rfl ⟨_,rfl⟩ ⟨_,rfl⟩ (fun w=>by simpa using run_eql_pointer_nil (P:=Tryz.prog) w 129 (some ⟨b,0,none⟩) Tryz.underlying129)) rfl (EL_nt (E_cond_false rfl (E_sr (Zn (.pointer (some ⟨b,0,none⟩)) rfl rfl (EL_p (.pointer (some ⟨b,0,none⟩)) (P_nilCheck rfl) rfl (EL_p (.pointer (some ⟨b,0,none⟩)) (show Pur _ _ _ (fPtr (.pointer (some ⟨b,0,none⟩)) 0) from Zc atS_0 rfl ⟨b,0,rfl⟩) rfl (EL_d0 rfl (D_load1 Tryz.isAgg129 rfl (hb.cell.trans rfl) (Zn (.pointer (some ⟨b,0,none⟩)) rfl rfl (EL_p (.bool false) (P_ptreq (.inr rfl) rfl rfl ⟨_,rfl⟩ ⟨_,rfl⟩ (fun w=>Lib.run_neq_ptr_same w ⟨b,0,none⟩ Tryz.underlying129 hj)) rfl (EL_nt (E_cond_false rfl (Zu ?_)))))))))))))
  exact end0n rfl rfl ⟨stp_refl _ _ _,hb,fun _ _=>rfl⟩
theorem wwb {i : Nat} {g : Gh} {w : World} {c : UInt8} {s : List UInt8 × Int} {r : List UInt8} {p : Value} (h : WR i g w 5 133 s p) (hr : apnd 1 s.1 [c] = some r) :
  Calls Tryz.prog 101 #[p,.int .u8 c.toNat] w fun q w'=>∃ v,q=.returned v∧∃ g',Stp i g w g' w'∧WR i g' w' 5 133 (r,s.2) p:=by
 obtain ⟨b,a,v,rfl,hb,hz,hne,ha⟩:=h
 refine calls_of_E Tryz.func101 rfl (Nat.le_of_ble_eq_true rfl) ?_
 show E _ 17 none _ _ _ _ _
 refine E_sr (Zg .nilIface rfl rfl (EL_nt (E_sr (Zn (.pointer (some ⟨b,0,none⟩)) rfl rfl (EL_d0 rfl (D_callC (vs:=[.pointer (some ⟨b,0,none⟩)]) en140 (.cons rfl .nil) (wcc hb ha) fun u w1 h1=>?_))))))
 obtain ⟨hs1,hb1,hk1⟩:=h1
 have hz1:=hz.other hne hk1
 refine EL_nt (E_sr (Zn (.pointer (some ⟨b,0,none⟩)) rfl rfl (Zn (.pointer (some ⟨b,0,none⟩)) rfl rfl (EL_p (.pointer (some ⟨b,0,none⟩)) (P_nilCheck rfl) rfl (EL_p (.pointer (some ⟨b,1,none⟩)) (show Pur _ _ _ (fPtr (.pointer (some ⟨b,0,none⟩)) 1) from Zc atS_1 rfl ⟨b,0,rfl⟩) rfl (EL_d0 rfl (D_load1 Tryz.isAgg50 rfl (hb1.cell.trans rfl) (Zn (.int .u8 c.toNat) rfl rfl (EL_d0 rfl (D_buildSlice (g:=g) 1 (xs:=[c]) (vs:=[.int .u8 c.toNat]) Tryz.underlying50 Tryz.sizeOf5 Tryz.zeroValue5 rfl rfl (.cons rfl .nil) (RVs.cons (RV_u8.2 rfl) RVs.nil) rfl rfl fun g3 w3 v3 _ _ r3 hxt _=>?_))))))))))
 have hb3:=hb1.ext hxt
 refine EL_d0 rfl (D_appendBZ (g:=g3) Tryz.underlying50 info_5 rfl (hz1.ext hxt) rfl r3 hr fun g4 w4 v4 hs4 z4 ap4=>?_)
 obtain ⟨hb4,hne4⟩:=hb3.apart ap4 hne
 refine EL_p (.pointer (some ⟨b,0,none⟩)) (P_nilCheck rfl) rfl (EL_p (.pointer (some ⟨b,1,none⟩)) (show Pur _ _ _ (fPtr (.pointer (some ⟨b,0,none⟩)) 1) from Zc atS_1 rfl ⟨b,0,rfl⟩) rfl (EL_d0 rfl (D_store1 (c:=v4) Tryz.sizeOf50 rfl rfl z4.one (by simp) hb4 fun w5 hs5 hb5 hk5=>(EL_nt (E_sr (Zg .nilIface rfl rfl (EL_nt ?_)))))))
 exact E_ret (end1 rfl rfl (rq .nilIface) ⟨g4,(hs1.trans (hxt.stp.trans (hs4.trans hs5))),b,_,v4,rfl,hb5,z4.other hne4 hk5,hne4,.inr rfl⟩)
theorem en115:Enters Tryz.prog 115:=enters_of Tryz.func115 (by kernel_rfl) rfl
theorem wws {i : Nat} {g : Gh} {w : World} {c : Str} {s : List UInt8 × Int} {r : List UInt8} {p : Value} (h : WR i g w 5 133 s p) (hr : apnd 1 s.1 c.b = some r) :
  Calls Tryz.prog 115 #[p,c.v] w fun q w'=>∃ v,q=.returned v∧∃ g',Stp i g w g' w'∧WR i g' w' 5 133 (r,s.2) p:=by
 obtain ⟨b,a,v,rfl,hb,hz,hne,ha⟩:=h
 refine calls_of_E Tryz.func115 rfl (Nat.le_of_ble_eq_true rfl) ?_
 show E _ 19 none _ _ _ _ _
 refine E_sr (Zg (Iz 0) rfl rfl (Zg .nilIface rfl rfl (EL_nt (E_sr (Zn (.pointer (some ⟨b,0,none⟩)) rfl rfl (EL_d0 rfl (D_callC (vs:=[.pointer (some ⟨b,0,none⟩)]) en140 (.cons rfl .nil) (wcc hb ha) fun u w1 h1=>?_)))))))
 obtain ⟨hs1,hb1,hk1⟩:=h1
 have hz1:=hz.other hne hk1
 refine EL_nt (E_sr (Zn (.pointer (some ⟨b,0,none⟩)) rfl rfl (Zn (.pointer (some ⟨b,0,none⟩)) rfl rfl (EL_p (.pointer (some ⟨b,0,none⟩)) (P_nilCheck rfl) rfl (EL_p (.pointer (some ⟨b,1,none⟩)) (show Pur _ _ _ (fPtr (.pointer (some ⟨b,0,none⟩)) 1) from Zc atS_1 rfl ⟨b,0,rfl⟩) rfl (EL_d0 rfl (D_load1 Tryz.isAgg50 rfl (hb1.cell.trans rfl) (Zn c.v rfl rfl (EL_d0 rfl (D_appendSZ (g:=g) Tryz.underlying50 Tryz.underlying9 info_5 rfl hz1 rfl hr fun g4 w4 v4 hs4 z4 ap4=>?_))))))))))
 obtain ⟨hb4,hne4⟩:=hb1.apart ap4 hne
 refine EL_p (.pointer (some ⟨b,0,none⟩)) (P_nilCheck rfl) rfl (EL_p (.pointer (some ⟨b,1,none⟩)) (show Pur _ _ _ (fPtr (.pointer (some ⟨b,0,none⟩)) 1) from Zc atS_1 rfl ⟨b,0,rfl⟩) rfl (EL_d0 rfl (D_store1 (c:=v4) Tryz.sizeOf50 rfl rfl z4.one (by simp) hb4 fun w5 hs5 hb5 hk5=>(EL_nt (E_sr (Zn c.v rfl rfl (EL_p (Iz (c.b.length:Int)) (P_lenS Tryz.underlying9 rfl) rfl (Zg (Iz (c.b.length:Int)) rfl rfl (Zg .nilIface rfl rfl (EL_nt ?_))))))))))
 exact E_ret (end2 rfl rfl rfl rfl ⟨g4,(hs1.trans (hs4.trans hs5)),b,_,v4,rfl,hb5,z4.other hne4 hk5,hne4,.inr rfl⟩)
theorem wst {i : Nat} {g : Gh} {w : World} {s : List UInt8 × Int} {p : Value} (h : WR i g w 5 133 s p) (h0 : s.1 ≠ []) :
  Calls Tryz.prog 71 #[p] w fun q w'=>∃ v,q=.returned v∧v=Str.v ⟨s.1⟩∧(∀ bk,p=.pointer (some ⟨bk,0,none⟩)→w'.heap[bk]?=w.heap[bk]?)∧∃ g',Stp i g w g' w'∧WR i g' w' 5 133 s p:=by
 obtain ⟨b,a,v,rfl,hb,hz,hne,ha⟩:=h
 obtain ⟨sa,c,rfl,hc,_⟩:=hz.hdr
 have hcn:c ≠ 0:=by
  have : 0 < s.1.length := by cases hs : s.1 with
   | nil=>exact absurd hs h0
   | cons _ _=>simp
  omega
 have hl:=L_ldW Tryz.isAgg50 hb (o:=1) (c:=.slice sa s.1.length c) rfl
 refine calls_of_E Tryz.func71 rfl (Nat.le_of_ble_eq_true rfl) ?_
 show E _ 14 none _ _ _ _ _
 refine E_sr (Zg (Str.v ⟨[]⟩) rfl rfl (EL_nt (Zf (E_drawL (g:=g) (n:=10) [] [0,1,2,3,4,5,6,7,8,9] rfl mixedS (by kernel_rfl) trivial (L_pur (c:=.pointer (some ⟨b,0,none⟩)) rfl rfl .plain (fun _ _ hd=>Zk rfl) (L_pur (c:=.pointer (some ⟨b,0,none⟩)) rfl rfl .plain (fun _ _ hd=>P_nilCheck rfl) (L_pur (c:=.pointer (some ⟨b,1,none⟩)) rfl rfl .plain (fun _ _ hd=>show Pur _ _ _ (fPtr (.pointer (some ⟨b,0,none⟩)) 1) from Zc atS_1 rfl ⟨b,0,rfl⟩) (L_ld (c:=.slice sa s.1.length c) rfl rfl .plain (fun _ _ h=>⟨h.ch,fun b hb _=>h.below.block b hb⟩) (hl _) rfl (L_pur (c:=.pointer sa) rfl rfl .plain (fun _ _ hd=>P_sliceData (a:=sa) (n:=s.1.length) (c:=c) rfl (.inl hcn)) (L_pur (c:=.pointer (some ⟨b,0,none⟩)) rfl rfl .plain (fun _ _ hd=>Zk rfl) (L_pur (c:=.pointer (some ⟨b,0,none⟩)) rfl rfl .plain (fun _ _ hd=>P_nilCheck rfl) (L_pur (c:=.pointer (some ⟨b,1,none⟩)) rfl rfl .plain (fun _ _ hd=>show Pur _ _ _ (fPtr (.pointer (some ⟨b,0,none⟩)) 1) from Zc atS_1 rfl ⟨b,0,rfl⟩) (L_ld (c:=.slice sa s.1.length c) rfl rfl .plain (fun _ _ h=>⟨h.ch,fun b hb _=>h.below.block b hb⟩) (hl _) rfl (L_pur (c:=Iz (s.1.length:Int)) rfl rfl .plain (fun _ _ hd=>P_lenH (v:=.slice sa s.1.length c) Tryz.underlying50 rfl ⟨_,_,rfl⟩) (L_nil fun g1 w1 hall=>?_)))))))))))))))
 have hs:=hall.1
 refine EL_d0 rfl (D_unsafeStringZ (g:=g1) (i:=i) (et:=5) rfl Tryz.underlying191 (by kernel_rfl) h0 rfl rfl (hz.ext hs) fun w2 hs2 z2 ap2=>?_)
 obtain ⟨hb2,hne2⟩:=(hb.ext hs).apart ap2 hne
 refine Zg (Str.v ⟨s.1⟩) rfl rfl (EL_nt ?_)
 exact E_ret (end1 rfl rfl (rq (Str.v ⟨s.1⟩)) ⟨rfl,fun bk hbk=>by injection hbk with hbk; injection hbk with hbk; injection hbk with hbk _; subst hbk; exact hb2.2.2.trans hb.2.2.symm,g1,hs.stp.trans hs2,b,a,_,rfl,hb2,z2,hne2,ha⟩)
def anyS : AnyT → Option Str
 | .str s=>some s
 | .int n=>itoaN n
def f68 (x0:List UInt8 × Int) (x1:List AnyT):Option (List UInt8 × Int):=
 Option.bind (α:=List UInt8) (lp (σ:=List UInt8 × Int) (fun k s=>bif decide (s.2 < (x1.length:Int)) then (idx x1 s.2).bind fun a=>Option.bind (α:=List UInt8) (bif decide (s.2 > (0:Int)) then apnd 1 s.1 [32] else some s.1) fun b=>(anyS a).bind fun t=>(apnd 1 b t.b).bind fun c=>k (c,w64 (s.2 + (1:Int))) else some s.1) big (x0.1,0)) fun b=>
 (apnd 1 b [10]).bind fun c=>some (c,w64 (x0.2 + (1:Int)))
theorem en68:Enters Tryz.prog 68:=enters_of Tryz.func68 (by kernel_rfl) rfl
theorem wk68 {i : Nat} {g : Gh} {w : World} {s s' : List UInt8 × Int} {ws : List AnyT} {p u : Value} (hT : TabP 1 g.m w) (h : WR i g w 5 133 s p) (hu : RV g.m w ws u) (hf : f68 s ws = some s') :
  Calls Tryz.prog 68 #[p,u] w fun q w'=>∃ v,q=.returned v∧∃ g',Stp i g w g' w'∧WR i g' w' 5 133 s' p:=by
 unfold f68 at hf
 obtain ⟨b0,hl,hf⟩:=bsome hf
 obtain ⟨bk,rfl⟩:∃ b,p=.pointer (some ⟨b,0,none⟩):=by obtain ⟨b,_,_,hh,_⟩:=h; exact ⟨b,hh⟩
 refine calls_of_E Tryz.func68 rfl (Nat.le_of_ble_eq_true rfl) ?_
 show E _ 51 none _ _ _ _ _
 refine E_joinD (fun e ds w'=>ds=[]∧e 0=.pointer (some ⟨bk,0,none⟩)∧∃ g',Stp i g w g' w'∧WR i g' w' 5 133 (b0,s.2) (.pointer (some ⟨bk,0,none⟩))) (fun Q' hQ=>?_) (fun e ds w' hR=>?_)
 ·refine E_sr (Zn u rfl rfl (EL_p (Iz (ws.length : Int)) (P_len (v := u) Tryz.underlying135 rfl hu) rfl (Zn (Iz 0) rfl rfl (EL_nt (Zr (E_lpD hl (fun (t : List UInt8 × Int) e ds w' => ds = [] ∧ e 0 = .pointer (some ⟨bk, 0, none⟩) ∧ e 8 = u ∧ e 9 = Iz (ws.length : Int) ∧ e 10 = Iz t.2 ∧ ∃ g', Stp i g w g' w' ∧ WR i g' w' 5 133 (t.1, s.2) (.pointer (some ⟨bk, 0, none⟩))) ⟨rfl, rfl, rfl, rfl, rfl, g, stp_refl _ _ _, h⟩ (fun X rec hrec => ?_)))))))
  rintro ⟨xs,n⟩ e ds w1 ⟨rfl,e0,e8,e9,e10,g1,hs,hwr⟩ hk
  refine E_sr (EL_in (.bool (decide (n < (ws.length:Int)))) e10 e9 rfl rfl (EL_nt ?_))
  rcases Zt hk with ⟨hc,hk⟩ | ⟨hc,hk⟩
  ·refine Zf (E_ct hc rfl (Zu (Zd ?_)))
   obtain ⟨a,ha,hk⟩:=bsome hk
   obtain ⟨bb,hbb,hk⟩:=bsome hk
   obtain ⟨tx,htx,hk⟩:=bsome hk
   obtain ⟨cc,hcc,hk⟩:=bsome hk
   have hu1:=hu.ch hs.ch
   have hT1:=hT.ch hs.ch
   refine E_joinD (fun e ds w'=>ds=[]∧e 0=.pointer (some ⟨bk,0,none⟩)∧e 8=u∧e 9=Iz (ws.length:Int)∧e 10=Iz n∧∃ g',Stp i g w g' w'∧WR i g' w' 5 133 (cc,s.2) (.pointer (some ⟨bk,0,none⟩))) (fun Q' hQ=>?_) (fun e2 ds2 w2 hR=>?_)
   ·refine Zr (E_sr (Zn (Iz n) e10 rfl (EL_p (ePtr u n 1) (Zh (α := AnyT) Tryz.underlying135 Tryz.sizeOf20 e8 hu1 e10 ha) rfl (EL_d0 rfl (D_load (g := g1) Tryz.isAgg20 Tryz.sizeOf20 rfl (PT_idx hu1 ha) fun va ra => ?_)))))
    obtain rfl:=RV_any.1 ra
    refine Zg (Iz n) rfl rfl (Zg a.v rfl rfl (EL_nt (E_joinD (fun e ds w'=>ds=[]∧e 0=.pointer (some ⟨bk,0,none⟩)∧e 5=a.v∧e 8=u∧e 9=Iz (ws.length:Int)∧e 10=Iz n∧∃ g',Stp i g w g' w'∧WR i g' w' 5 133 (bb,s.2) (.pointer (some ⟨bk,0,none⟩))) (fun Q2 hQ2=>?_) (fun e3 ds3 w3 hR3=>?_))))
    ·refine E_sr (Zn (Iz n) rfl rfl (EL_in (.bool (decide (n > (0 : Int)))) rfl rfl rfl rfl (EL_nt ?_)))
     rcases Zt hbb with ⟨hc2,hbb⟩ | ⟨hc2,hbb⟩
     ·refine E_ct hc2 rfl (Za (Zo e0 rfl (EL_p (.pointer (some ⟨bk, 0, none⟩)) (P_nilCheck rfl) rfl (EL_p (.pointer (some ⟨bk, 0, none⟩)) (show Pur _ _ _ (fPtr (.pointer (some ⟨bk, 0, none⟩)) 0) from Zc atW_0 rfl ⟨bk, 0, rfl⟩) rfl (EL_d0 rfl (D_callC (vs := [.pointer (some ⟨bk, 0, none⟩), .int .u8 (32 : UInt8).toNat]) en101 (.cons rfl (.cons rfl .nil)) (wwb (c := 32) hwr hbb) fun q4 w4 h4 => ?_))))))
      obtain ⟨g4,hs4,hwr4⟩:=h4
      exact Zb (hQ2 _ _ _ ⟨rfl,e0,rfl,e8,e9,e10,g4,hs.trans hs4,hwr4⟩)
     ·obtain rfl := sinj hbb
      exact E_cf hc2 rfl (Zu (hQ2 _ _ _ ⟨rfl,e0,rfl,e8,e9,e10,g1,hs,hwr⟩))
    ·obtain ⟨rfl, e0, e5, e8, e9, e10, g3, hs3, hwr3⟩ := hR3
     have hT3:=hT.ch hs3.ch
     refine E_sr (Zo e5 rfl (EL_nt (Zr (E_sr ?_))))
     cases a with
     | str tt=>
      obtain rfl:=sinj htx
      refine EL_p (.tuple #[tt.v,.bool true]) (P_isStr (ti:=3) Tryz.underlying9 rfl) rfl (EL_p (.bool true) (Zi rfl rfl) rfl (EL_p tt.v (Zi rfl rfl) rfl (EL_nt (E_cond_true rfl (E_sr (Zg tt.v rfl rfl (EL_nt (Za (Zo e0 rfl (EL_p (.pointer (some ⟨bk,0,none⟩)) (P_nilCheck rfl) rfl (EL_p (.pointer (some ⟨bk,0,none⟩)) (show Pur _ _ _ (fPtr (.pointer (some ⟨bk,0,none⟩)) 0) from Zc atW_0 rfl ⟨bk,0,rfl⟩) rfl (Zn tt.v rfl rfl (EL_d0 rfl (D_callC (vs:=[.pointer (some ⟨bk,0,none⟩),tt.v]) en115 (.cons rfl (.cons rfl .nil)) (wws hwr3 hcc) fun q4 w4 h4=>?_))))))))))))))
      obtain ⟨g4,hs4,hwr4⟩:=h4
      exact Zb (blk_n (hQ _ _ _ ⟨rfl,e0,e8,e9,e10,g4,hs3.trans hs4,hwr4⟩))
     | int nn=>
      refine EL_p (.tuple #[_,.bool false]) (P_notStr (ti:=3) Tryz.underlying9 rfl Tryz.zeroValue9 rfl) rfl (EL_p (.bool false) (Zi rfl rfl) rfl (EL_p _ (Zi rfl rfl) rfl (EL_nt (E_cond_false rfl (E_sr (EL_p (.tuple #[Iz nn,.bool true]) (P_isInt (ts:=9) Tryz.underlying3 rfl) rfl (EL_p (.bool true) (Zi rfl rfl) rfl (EL_p (Iz nn) (Zi rfl rfl) rfl (EL_nt (E_cond_true rfl (E_sr (Zg (Iz nn) rfl rfl (EL_nt (E_drawC (g:=g3) (n:=6) [0,1,2,3] [] [0,1,2,3,4,5] rfl mixedS (by kernel_rfl) fun w_c hx hlt=>?_))))))))))))))
      have hwr4:=hwr3.ext hx
      have hT4:=hT3.ext hx
      refine CH_pur (c:=.pointer (some ⟨bk,0,none⟩)) rfl rfl .plain (Zk e0) (CH_pur (c:=.pointer (some ⟨bk,0,none⟩)) rfl rfl .plain (P_nilCheck rfl) (CH_pur (c:=.pointer (some ⟨bk,0,none⟩)) rfl rfl .plain (show Pur _ _ _ (fPtr (.pointer (some ⟨bk,0,none⟩)) 0) from Zc atW_0 rfl ⟨bk,0,rfl⟩) (CH_pur (c:=Iz nn) rfl rfl .plain (Zk rfl) (CH_do rfl rfl .plain (D_itoa (g:=g3) en116 it_ok hT4 rfl htx fun w5 hx5=>?_)))))
      have hwr5:=hwr4.ext hx5
      have hlt5:=hlt.ext hx5
      refine ⟨hlt5.toW,?_⟩
      refine CH_do rfl rfl .plain (D_callC (vs:=[.pointer (some ⟨bk,0,none⟩),tx.v]) en115 (.cons rfl (.cons rfl .nil)) (wws hwr5 hcc) fun q6 w6 h6=>?_)
      obtain ⟨g6,hs6,hwr6⟩:=h6
      refine ⟨(hlt5.stp hs6 rfl).toW,?_⟩
      refine CH_nil (Zb (blk_n ?_))
      exact hQ _ _ _ ⟨rfl,e0,e8,e9,e10,g6,hs3.trans (hx.stp.trans (hx5.stp.trans hs6)),hwr6⟩
   ·obtain ⟨rfl, e0, e8, e9, e10, g2, hs2, hwr2⟩ := hR
    refine Za (EL_in (Iz (w64 (n + (1:Int)))) e10 rfl rfl rfl (Zn (Iz (w64 (n + (1:Int)))) rfl rfl ?_))
    exact EL_nt (hrec (cc,w64 (n + 1)) _ _ _ ⟨rfl,e0,e8,e9,rfl,g2,hs2,hwr2⟩ hk)
  ·refine Zf (E_cf hc rfl (E_exit (thn_e (thn_e (blk_hit ?_)))))
   obtain rfl:=sinj hk
   exact hQ _ _ _ ⟨rfl,e0,g1,hs,hwr⟩
 ·obtain ⟨rfl, e0, g1, hs, hwr⟩ := hR
  obtain ⟨c0,hc0,hf⟩:=bsome hf
  obtain rfl:=sinj hf
  refine E_sr (Zo e0 rfl (EL_p (.pointer (some ⟨bk,0,none⟩)) (P_nilCheck rfl) rfl (EL_p (.pointer (some ⟨bk,0,none⟩)) (show Pur _ _ _ (fPtr (.pointer (some ⟨bk,0,none⟩)) 0) from Zc atW_0 rfl ⟨bk,0,rfl⟩) rfl (EL_d0 rfl (D_callC (vs:=[.pointer (some ⟨bk,0,none⟩),.int .u8 (10:UInt8).toNat]) en101 (.cons rfl (.cons rfl .nil)) (wwb (c:=10) hwr hc0) fun q4 w4 h4=>?_)))))
  obtain ⟨g4,hs4,hwr4⟩:=h4
  refine EL_nt (Za (Zo e0 rfl (EL_p (.pointer (some ⟨bk,0,none⟩)) (P_nilCheck rfl) rfl (EL_p (.pointer (some ⟨bk,2,none⟩)) (show Pur _ _ _ (fPtr (.pointer (some ⟨bk,0,none⟩)) 2) from Zc atW_1 rfl ⟨bk,0,rfl⟩) rfl ?_))))
  obtain ⟨b,a,v,hp,hb,hz,hne,ha⟩:=hwr4
  injection hp with hp; injection hp with hp; injection hp with hp _
  subst hp
  refine EL_d0 rfl (D_load1 Tryz.isAgg3 rfl (hb.cell.trans rfl) (EL_in (Iz (w64 (s.2 + (1:Int)))) rfl rfl rfl rfl (EL_p (.pointer (some ⟨bk,0,none⟩)) (P_nilCheck rfl) rfl (EL_p (.pointer (some ⟨bk,2,none⟩)) (show Pur _ _ _ (fPtr (.pointer (some ⟨bk,0,none⟩)) 2) from Zc atW_1 rfl ⟨bk,0,rfl⟩) rfl (EL_d0 rfl (D_store1 (c:=Iz (w64 (s.2 + (1:Int)))) Tryz.sizeOf3 rfl rfl rfl (by simp) hb fun w5 hs5 hb5 hk5=>(Zb ?_)))))))
  exact end0n rfl rfl ⟨g4,hs.trans (hs4.trans hs5),bk,a,v,rfl,hb5,hz.other hne hk5,hne,ha⟩
def f69 (x0:List UInt8 × Int) (c:ChainCard) (n:Int):Option (List UInt8 × Int):=
 (f55 c.Row n).bind fun t=>f68 x0 [.str ⟨bif c.Turned then [116,117,114,110,101,100] else [99,97,114,100]⟩,bif decide (c.Number=-1) then .str ⟨[63]⟩ else .int c.Number,.str t]
theorem en69:Enters Tryz.prog 69:=enters_of Tryz.func69 (by kernel_rfl) rfl
theorem wk69 {i : Nat} {g : Gh} {w : World} {s s' : List UInt8 × Int} {c : ChainCard} {n : Int} {p u : Value} (hT : TabP 1 g.m w) (h : WR i g w 5 133 s p) (hu : RV g.m w c u) (hf : f69 s c n = some s') :
  Calls Tryz.prog 69 #[p,u,Iz n] w fun q w'=>∃ v,q=.returned v∧∃ g',Stp i g w g' w'∧WR i g' w' 5 133 s' p:=by
 unfold f69 at hf
 obtain ⟨tx,htx,hf⟩:=bsome hf
 refine calls_of_E Tryz.func69 rfl (Nat.le_of_ble_eq_true rfl) ?_
 show E _ 28 none _ _ _ _ _
 refine E_sr (EL_d0 rfl (D_box (g:=g) rfl hu fun g1 w1 p1 hx1 q1=>?_))
 have h1:=h.ext hx1
 have hT1:=hT.ext hx1
 refine EL_nt (E_joinD (fun e ds w'=>ds=[]∧e 0=p∧e 2=Iz n∧e 4=p1∧e 6=Str.v ⟨[99,97,114,100]⟩∧e 7=(AnyV.int c.Number:AnyT).v∧∃ g',Ext g1 w1 g' w') (fun Q' hQ=>?_) (fun e ds w' hR=>?_))
 ·refine Zs (x := .tmp 8) Tryz.isAgg3 Tryz.sizeOf3 (Zm part_ChainCard_0.1 q1) fun vN rN hlN => ?_
  obtain rfl:=Zj.1 rN
  refine E_drawL (g:=g1) (n:=5) [] [0,1,2,3,4] rfl mixedS (by kernel_rfl) trivial (L_p (fPtr p1 0) rfl rfl (Zc at_96_0 rfl (PT.ptr q1)) (L_ld (c:=Iz c.Number) rfl rfl .plain (fun _ _ h=>h.ch) hlN rfl (L_p (AnyV.int c.Number:AnyT).v rfl rfl (P_anyInt Tryz.underlying3 rfl) (L_p (Str.v ⟨[99,97,114,100]⟩) rfl rfl (P_assign rfl) (L_p (AnyV.int c.Number:AnyT).v rfl rfl (P_assign rfl) (L_nl fun g2 w2 hs=>?_))))))
  exact Zb (hQ _ _ _ ⟨rfl,rfl,rfl,rfl,rfl,rfl,g2,hs⟩)
 obtain ⟨rfl,e0,e2,e4,e6,e7,g2,hx2⟩:=hR
 have h2:=h1.ext hx2
 have hT2:=hT1.ext hx2
 have q2:=q1.ext hx2
 refine E_joinD (fun e ds w'=>ds=[]∧e 0=p∧e 2=Iz n∧e 4=p1∧e 6=Str.v ⟨bif c.Turned then [116,117,114,110,101,100] else [99,97,114,100]⟩∧e 7=(AnyV.int c.Number:AnyT).v∧∃ g',Ext g1 w1 g' w') (fun Q' hQ=>?_) (fun e ds w' hR=>?_)
 ·refine E_sr (EL_p (fPtr p1 2) (Zc at_96_2 e4 (PT.ptr q2)) rfl (EL_d0 rfl (D_load (g := g2) Tryz.isAgg4 Tryz.sizeOf4 rfl (Zm part_ChainCard_2.1 q2) fun v r => ?_)))
  obtain rfl:=RV_bool.1 r
  refine EL_nt ?_
  rcases Bool.eq_false_or_eq_true c.Turned with hb | hb
  ·refine E_ct hb rfl (Za (Zg (Str.v ⟨[116, 117, 114, 110, 101, 100]⟩) rfl rfl ?_))
   exact Zb (hQ _ _ _ ⟨rfl,e0,e2,e4,by simp only [hb,cond_true]; rfl,e7,g2,hx2⟩)
  ·exact E_cf hb rfl (Zu (hQ _ _ _ ⟨rfl,e0,e2,e4,by simp only [hb,cond_false]; exact e6,e7,g2,hx2⟩))
 clear e0 e2 e4 e6 e7
 obtain ⟨rfl,e0,e2,e4,e6,e7,g2,hx2⟩:=hR
 have h2:=h1.ext hx2
 have hT2:=hT1.ext hx2
 have q2:=q1.ext hx2
 refine E_joinD (fun e ds w'=>ds=[]∧e 0=p∧e 2=Iz n∧e 4=p1∧e 6=Str.v ⟨bif c.Turned then [116,117,114,110,101,100] else [99,97,114,100]⟩∧e 7=(bif decide (c.Number=-1) then AnyV.str ⟨[63]⟩ else AnyV.int c.Number:AnyT).v∧∃ g',Ext g1 w1 g' w') (fun Q' hQ=>?_) (fun e ds w' hR=>?_)
 ·refine E_sr (EL_p (fPtr p1 0) (Zc at_96_0 e4 (PT.ptr q2)) rfl (EL_d0 rfl (D_load (g := g2) Tryz.isAgg3 Tryz.sizeOf3 rfl (Zm part_ChainCard_0.1 q2) fun v r => ?_)))
  obtain rfl:=Zj.1 r
  refine EL_in (.bool (decide (c.Number=-1))) rfl rfl rfl rfl (EL_nt ?_)
  rcases Bool.eq_false_or_eq_true (decide (c.Number=-1)) with hb | hb
  ·refine E_ct hb rfl (Za (EL_p (AnyV.str ⟨[63]⟩ : AnyT).v (P_anyStr Tryz.underlying9 rfl) rfl (Zg (AnyV.str ⟨[63]⟩ : AnyT).v rfl rfl ?_)))
   exact Zb (hQ _ _ _ ⟨rfl,e0,e2,e4,e6,by simp only [hb,cond_true]; rfl,g2,hx2⟩)
  ·exact E_cf hb rfl (Zu (hQ _ _ _ ⟨rfl,e0,e2,e4,e6,by simp only [hb,cond_false]; exact e7,g2,hx2⟩))
 clear e0 e2 e4 e6 e7
 obtain ⟨rfl,e0,e2,e4,e6,e7,g2,hx2⟩:=hR
 have h2:=h1.ext hx2
 have hT2:=hT1.ext hx2
 have q2:=q1.ext hx2
 refine Za (Zo e0 rfl (Zo e6 rfl (EL_p (AnyV.str _:AnyT).v (P_anyStr Tryz.underlying9 rfl) rfl (Zo e7 rfl (EL_p (fPtr p1 1) (Zc at_96_1 e4 (PT.ptr q2)) rfl (EL_d0 rfl (D_load (g:=g2) Tryz.isAgg3 Tryz.sizeOf3 rfl (Zm part_ChainCard_1.1 q2) fun v r=>?_)))))))
 obtain rfl:=Zj.1 r
 refine Zo e2 rfl (EL_d0 rfl (Zp (g:=g2) (vs:=[Iz c.Row,Iz n]) en55 (.cons rfl (.cons rfl .nil)) (wk55 htx) fun g3 w3 v3 hx3 hv3=>?_))
 subst hv3
 have h3:=h2.ext hx3
 have hT3:=hT2.ext hx3
 refine EL_p (AnyV.str tx:AnyT).v (P_anyStr Tryz.underlying9 rfl) rfl (EL_d0 rfl (D_buildSlice (g:=g3) 1 (xs:=([.str ⟨bif c.Turned then [116,117,114,110,101,100] else [99,97,114,100]⟩,bif decide (c.Number=-1) then .str ⟨[63]⟩ else .int c.Number,.str tx]:List AnyT)) (vs:=[_,_,_]) Tryz.underlying135 Tryz.sizeOf20 Tryz.zeroValue20 rfl rfl (.cons rfl (.cons rfl (.cons rfl .nil))) (RVs.cons (RV_any.2 rfl) (RVs.cons (RV_any.2 rfl) (RVs.cons (RV_any.2 rfl) RVs.nil))) rfl rfl fun g4 w4 v4 _ _ r4 hx4 _=>(EL_d0 rfl (D_callC (vs:=[p,v4]) en68 (.cons rfl (.cons rfl .nil)) (wk68 (hT3.ext hx4) (h3.ext hx4) r4 hf) fun q5 w5 h5=>?_))))
 obtain ⟨g5,hs5,h5⟩:=h5
 refine Zb ?_
 exact end0n rfl rfl ⟨g5,hx1.stp.trans (hx2.stp.trans (hx3.stp.trans (hx4.stp.trans hs5))),h5⟩
theorem D_boxW {P : Program} {e : Env} {g : Gh} {w : World} {K : Value → World → Prop} (i : Nat) {et T : TypeId} {x : Operand} {v : Value} (hx : ev e x = v) (hv : v.cells = #[.pointer none, .slice none 0 0, Iz 0])
  (h:∀ g' w' b,Stp i g w g' w'→WR i g' w' et T ([],0) (.pointer (some ⟨b,0,none⟩))→K (.pointer (some ⟨b,0,none⟩)) w'):Doe P (.box T x) e w K:=fun d ty pos af gd=>by
 have hrun:(execOp (ev e) ⟨d,.box T x,ty,pos,af,gd⟩).run P w=.ok (.value (.pointer (some ⟨w.heap.size,0,none⟩))) (w.alloc (.cells v.cells T)):=by
  simp [execOp,hx,Instr.box,newVar,newRow,Result.andThen]
 unfold doE; rw [hrun]
 refine h _ _ w.heap.size (stp_new i g w _ T 0) ⟨_,_,_,rfl,⟨updN_same _ _ _,updN_same _ _ _,?_⟩,OZ.nil,(fun h=>by cases h),.inl rfl⟩
 rw [heap_new_at,hv]
theorem retagW {w0 w1:World} {g g1:Gh} {bk:Nat} (hbk:g.o bk=1) (hs:Stp 1 g w0 g1 w1) (hb:w1.heap[bk]?=w0.heap[bk]?):LTg [7] { m:=g.m,o:=fun b=>if b=bk then 7 else g.o b } w0 { m:=g1.m,o:=fun b=>if b=bk then 7 else g1.o b } w1:=by
 refine ⟨hs.ch,fun b hlt hu=>?_⟩;by_cases h:b=bk
 ·subst h; exact ⟨hb,by simp⟩
 ·have h7 : g.o b = 7 := by simpa [h] using hu
  have hne:g.o b ≠ 1:=by rw [h7]; decide
  exact ⟨hs.block b hlt hne,by simp [h,hs.o b hlt hne]⟩
theorem info_20w:(Tryz.prog.info? 20).map (fun i=>(i.zero,i.size,i.bytes))=some (some .nilIface,1,16):=by kernel_rfl
theorem lay_133w:layoutOf Tryz.prog 133=some ([.pointer none,.slice none 0 0,Iz 0],[(0,2),(2,1)]):=by kernel_rfl
def tieWs (t:BookTie):Option (List AnyT):=
 lp (σ:=List AnyT × Int) (fun k z=>bif decide (z.2 < (t.Harness.Warps.length:Int)) then (idx t.Harness.Warps z.2).bind fun a=>(apnd 16 z.1 [AnyV.int a]).bind fun y=>k (y,w64 (z.2 + (1:Int))) else some z.1) big ([.str ⟨[116,105,101]⟩,.str t.Name,.int t.Harness.Hooks],0)
def wTies (m:BookMill) (s:List UInt8 × Int):Option (List UInt8 × Int):=
 lp (σ:=(List UInt8 × Int) × Int) (fun k z=>bif decide (z.2 < (m.Ties.length:Int)) then (idx m.Ties z.2).bind fun a=>(tieWs a).bind fun ws=>(f68 z.1 ws).bind fun y=>k (y,w64 (z.2 + (1:Int))) else some z.1) big (s,0)
def wCards (c:BookChain) (s:List UInt8 × Int):Option (List UInt8 × Int):=
 lp (σ:=(List UInt8 × Int) × Int) (fun k z=>bif decide (z.2 < (c.Chain.Cards.length:Int)) then (idx c.Chain.Cards z.2).bind fun a=>(f69 z.1 a c.Chain.Hooks).bind fun y=>k (y,w64 (z.2 + (1:Int))) else some z.1) big (s,0)
def wChains (m:BookMill) (s:List UInt8 × Int):Option (List UInt8 × Int):=
 lp (σ:=(List UInt8 × Int) × Int) (fun k z=>bif decide (z.2 < (m.Chains.length:Int)) then (idx m.Chains z.2).bind fun a=>(f68 z.1 [.str ⟨[99,104,97,105,110]⟩,.str a.Name,.int a.Chain.Hooks]).bind fun s1=>(wCards a s1).bind fun y=>k (y,w64 (z.2 + (1:Int))) else some z.1) big (s,0)
def f23 (m:BookMill):Option (Str × Int):=
 (f67 m).bind fun ck=>bif !decide (ck=0) then some (⟨[]⟩,ck) else
 (f68 ([],0) [.str ⟨[109,105,108,108]⟩]).bind fun s0=>(wTies m s0).bind fun s1=>(wChains m s1).bind fun s2=>
 bif s2.1.isEmpty then none else (f70 ⟨s2.1⟩).bind fun sm=>(f68 s2 [.str ⟨[101,110,100]⟩,.int s2.2,.int sm]).bind fun s3=>
 bif s3.1.isEmpty then none else some (⟨s3.1⟩,0)
theorem nemp {s:List UInt8} (h:s.isEmpty=false):s ≠ []:=fun h0=>by subst h0; cases h
theorem en23:Enters Tryz.prog 23:=enters_of Tryz.func23 (by kernel_rfl) rfl
theorem wk23 {gI:Gh} {wI:World} {x0:BookMill} {up0:Value} (hTI:TabP 1 gI.m wI) (rp0:RV gI.m wI x0 up0) {r:Str × Int} (h:f23 x0=some r):Fn Tryz.prog 23 #[up0] gI wI (fun _ _ v=>∃ y0 y1,v=.tuple #[y0,y1]∧y0=Str.v r.1∧y1=Iz r.2):=by
 unfold f23 at h;refine fnE Tryz.func23 rfl rfl fun g0 hm hfr=>?_;have rp0:=RVc hm rp0;have hT0:TabP 1 g0.m wI:=hm ▸ hTI;show E _ 113 none _ _ _ _ _;refine E_sr (EL_d0 rfl (D_box (g:=g0) rfl rp0 fun g1 w1 p1 hx1 q1=>?_));have hfr:=hfr.ext hx1;have hT1:=hT0.ext hx1;refine Zg (Str.v ⟨[]⟩) rfl rfl (Zg (Iz 0) rfl rfl (EL_nt (Zf (E_sr (EL_d0 rfl (D_load (g:=g1) Tryz.isAgg39 Tryz.sizeOf39 rfl q1 fun vm rm=>?_))))));obtain ⟨ck,hck,h⟩:=bsome h;refine EL_d0 rfl (Zp (g:=g1) (vs:=[vm]) en67 (.cons rfl .nil) (wk67 rm hck) fun g2 w2 v2 hx2 hv2=>?_);subst hv2;have hfr:=hfr.ext hx2;have hT2:=hT1.ext hx2;have q2:=q1.ext hx2;refine Zg (Iz ck) rfl rfl (EL_nt (E_sr (Zn (Iz ck) rfl rfl (EL_in (.bool (!decide (ck=0))) rfl rfl rfl rfl (EL_nt ?_)))));rcases Zt h with ⟨hc,h⟩ | ⟨hc,h⟩
 ·refine E_ct hc rfl (E_sr (Zn (Iz ck) rfl rfl (Zg (Str.v ⟨[]⟩) rfl rfl (Zg (Iz ck) rfl rfl (EL_nt (E_ret (thn_r ?_)))))))
  obtain rfl:=sinj h;exact end2 rfl rfl rfl rfl ⟨_,hfr,_,_,rfl,rfl,rfl⟩
 refine E_cf hc rfl (Zu (Zd ?_));obtain ⟨s0,hs0,h⟩:=bsome h;obtain ⟨s1,hs1,h⟩:=bsome h;obtain ⟨s2,hs2,h⟩:=bsome h;refine E_sr (EL_p (.agg #[.pointer none,.slice none 0 0,Iz 0]) (show Pur _ _ _ (.agg #[.pointer none,.slice none 0 0,Iz 0]) from P_build (vs:=[]) [[.pointer none,.slice none 0 0],[Iz 0]] lay_133w rfl rfl .nil trivial) rfl (EL_d0 rfl (D_boxW (g:=g2) 1 (et:=5) rfl rfl fun g3 w3 bk hx3 hw3=>?_)));have hfr:=hfr.stp hx3;have hT3:=hT2.stp hx3;have q3:=q2.stp hx3;refine Zg (.pointer (some ⟨bk,0,none⟩)) rfl rfl (EL_nt (E_sr (Zn (.pointer (some ⟨bk,0,none⟩)) rfl rfl (EL_p (AnyV.str ⟨[109,105,108,108]⟩:AnyT).v (P_anyStr Tryz.underlying9 rfl) rfl (EL_d0 rfl (D_buildSlice (g:=g3) 3 (xs:=([.str ⟨[109,105,108,108]⟩]:List AnyT)) (vs:=[_]) Tryz.underlying135 Tryz.sizeOf20 Tryz.zeroValue20 rfl rfl (.cons rfl .nil) (RVs.cons (RV_any.2 rfl) RVs.nil) rfl rfl fun g4 w4 v4 _ _ r4 hx4 _=>?_))))));have hfr:=hfr.ext hx4;refine EL_d0 rfl (D_callC (vs:=[.pointer (some ⟨bk,0,none⟩),v4]) en68 (.cons rfl (.cons rfl .nil)) (wk68 (hT3.ext hx4) (hw3.ext hx4) r4 hs0) fun q5 w5 h5=>?_);obtain ⟨g5,hx5,hw5⟩:=h5;have hfr:=hfr.stp hx5;have hT5:=(hT3.ext hx4).stp hx5;have q5:=(q3.ext hx4).stp hx5;refine EL_nt ?_;clear hT0 hT1 hT2 hT3 hx1 hx2 hx3 hx4 hx5 q1 q2 q3 rm r4 hc hck hw3;refine E_joinD (fun e ds w'=>ds=[]∧e 1=p1∧e 5=.pointer (some ⟨bk,0,none⟩)∧∃ g',Fr gI wI g' w'∧Ch g5.m w5 g'.m w'∧WR 1 g' w' 5 133 s1 (.pointer (some ⟨bk,0,none⟩))) (fun Q' hQ=>?_) (fun e ds w6 hR=>?_)
 ·clear h
  refine E_sr (EL_p (fPtr p1 0) (Zc at_39_0 rfl (PT.ptr q5)) rfl (EL_d0 rfl (D_load (g:=g5) Tryz.isAgg36 Tryz.sizeOf36 rfl (Zm part_BookMill_0.1 q5) fun tv rt=>(EL_p (Iz (x0.Ties.length:Int)) (P_len (v:=tv) Tryz.underlying36 rfl rt) rfl (Zn (Iz 0) rfl rfl (EL_nt (Zr ?_)))))));unfold wTies at hs1;refine E_lpD hs1 (fun (z:(List UInt8 × Int) × Int) e ds w'=>ds=[]∧e 1=p1∧e 5=.pointer (some ⟨bk,0,none⟩)∧e 27=tv∧e 28=Iz (x0.Ties.length:Int)∧e 29=Iz z.2∧∃ g',Fr gI wI g' w'∧Ch g5.m w5 g'.m w'∧WR 1 g' w' 5 133 z.1 (.pointer (some ⟨bk,0,none⟩))) ⟨rfl,rfl,rfl,rfl,rfl,rfl,g5,hfr,Ch.refl _ _,hw5⟩ (fun X rec hrec=>?_);rintro ⟨s,n⟩ e ds w1 ⟨rfl,e1,e5,e27,e28,e29,g,hfr,hch,hw⟩ hk;refine E_sr (EL_in (.bool (decide (n < (x0.Ties.length:Int)))) e29 e28 rfl rfl (EL_nt ?_));rcases Zt hk with ⟨hc,hk⟩ | ⟨hc,hk⟩
  ·refine Zf (E_ct hc rfl (Zu (Zd ?_)))
   obtain ⟨a,ha,hk⟩:=bsome hk;obtain ⟨ws,hws,hk⟩:=bsome hk;obtain ⟨y,hy,hk⟩:=bsome hk;refine E_joinD (fun e ds w'=>ds=[]∧e 1=p1∧e 5=.pointer (some ⟨bk,0,none⟩)∧e 27=tv∧e 28=Iz (x0.Ties.length:Int)∧e 29=Iz n∧∃ g',Fr gI wI g' w'∧Ch g5.m w5 g'.m w'∧WR 1 g' w' 5 133 y (.pointer (some ⟨bk,0,none⟩))) (fun Q2 hQ2=>?_) (fun e ds w2 hR=>?_)
   ·refine Zr (E_sr ?_)
    have rt1:=rt.ch hch;refine EL_p (ePtr tv n 3) (Zh (α:=BookTie) Tryz.underlying36 Tryz.sizeOf108 e27 rt1 e29 ha) rfl (EL_d0 rfl (D_load (g:=g) Tryz.isAgg108 Tryz.sizeOf108 rfl (PT_idx rt1 ha) fun va ra=>(EL_d0 rfl (D_allocO (g:=g) 2 (⟨⟨[]⟩,⟨0,[]⟩⟩:BookTie) Tryz.zeroValue108 (fun m w=>⟨_,rep_two rep_str (rep_two rep_int rep_nil),rfl⟩) fun g2 w2 pt hs2 b2=>(EL_d0 rfl (D_storeO (g:=g2) (v:=va) Tryz.sizeOf108 rfl b2 rfl (ra.stp hs2) fun g3 w3 hs3 b3=>?_))))));obtain ⟨g4,hs4,q4⟩:=b3.pub;have hfr:=((hfr.stp hs2).stp hs3).stp hs4;have hch:=hch.trans (hs2.ch.trans (hs3.ch.trans hs4.ch));have hw:=((hw.stp hs2 rfl).stp hs3 rfl).stp hs4 rfl;clear b2 b3 hs2 hs3 hs4 ra rt1;refine EL_nt (E_sr ?_);have qh:=Zm part_BookTie_1.1 q4;refine EL_p (AnyV.str ⟨[116,105,101]⟩:AnyT).v (P_anyStr Tryz.underlying9 rfl) rfl (EL_p (fPtr pt 0) (Zc at_108_0 rfl (PT.ptr q4)) rfl (EL_d0 rfl (D_load (g:=g4) Tryz.isAgg9 Tryz.sizeOf9 rfl (Zm part_BookTie_0.1 q4) fun v5 r5=>?_)));obtain rfl:=RV_str.1 r5;refine EL_p (AnyV.str a.Name:AnyT).v (P_anyStr Tryz.underlying9 rfl) rfl (EL_p (fPtr pt 1) (Zc at_108_1 rfl (PT.ptr q4)) rfl (EL_p (fPtr (fPtr pt 1) 0) (Zc at_106_0 rfl (PT.ptr qh)) rfl (EL_d0 rfl (D_load (g:=g4) Tryz.isAgg3 Tryz.sizeOf3 rfl (Zm part_TieHarness_0.1 qh) fun v6 r6=>?_))));obtain rfl:=Zj.1 r6;refine EL_p (AnyV.int a.Harness.Hooks:AnyT).v (P_anyInt Tryz.underlying3 rfl) rfl (EL_d0 rfl (D_buildSlice (g:=g4) 3 (xs:=([.str ⟨[116,105,101]⟩,.str a.Name,.int a.Harness.Hooks]:List AnyT)) (vs:=[_,_,_]) Tryz.underlying135 Tryz.sizeOf20 Tryz.zeroValue20 rfl rfl (.cons rfl (.cons rfl (.cons rfl .nil))) (RVs.cons (RV_any.2 rfl) (RVs.cons (RV_any.2 rfl) (RVs.cons (RV_any.2 rfl) RVs.nil))) rfl rfl fun g7 w7 v7 _ o7 r7 hx7 _=>?_));have hfr:=hfr.ext hx7;have hch:=hch.trans hx7.ch;have hw:=hw.ext hx7;have qh:=qh.ext hx7;refine Zg v7 rfl rfl (EL_nt ?_);have hpt:=PT.ptr q4;clear hx7 q4;refine E_joinD (fun e ds w'=>ds=[]∧e 1=p1∧e 5=.pointer (some ⟨bk,0,none⟩)∧e 27=tv∧e 28=Iz (x0.Ties.length:Int)∧e 29=Iz n∧∃ g' v8,e 8=v8∧Fr gI wI g' w'∧Ch g5.m w5 g'.m w'∧WR 1 g' w' 5 133 s (.pointer (some ⟨bk,0,none⟩))∧RV g'.m w' ws v8) (fun Q3 hQ3=>?_) (fun e ds w8 hR=>?_)
    ·refine E_sr (EL_p (fPtr pt 1) (Zc at_108_1 rfl hpt) rfl (EL_p (fPtr (fPtr pt 1) 1) (Zc at_106_1 rfl (PT.ptr qh)) rfl (EL_d0 rfl (D_load (g := g7) Tryz.isAgg22 Tryz.sizeOf22 rfl (Zm part_TieHarness_1.1 qh) fun hv rh => (EL_p (Iz (a.Harness.Warps.length : Int)) (P_len (v := hv) Tryz.underlying22 rfl rh) rfl (Zn (Iz 0) rfl rfl (EL_nt (Zr ?_))))))))
     unfold tieWs at hws;refine E_lpD hws (fun (z:List AnyT × Int) e ds w'=>ds=[]∧e 1=p1∧e 5=.pointer (some ⟨bk,0,none⟩)∧e 27=tv∧e 28=Iz (x0.Ties.length:Int)∧e 29=Iz n∧e 44=hv∧e 45=Iz (a.Harness.Warps.length:Int)∧e 46=Iz z.2∧∃ g' v8,e 8=v8∧Fr gI wI g' w'∧Ch g5.m w5 g'.m w'∧Ch g7.m w7 g'.m w'∧WR 1 g' w' 5 133 s (.pointer (some ⟨bk,0,none⟩))∧RV g'.m w' z.1 v8∧OS 3 g' w' 20 z.1 v8) ⟨rfl,e1,e5,e27,e28,e29,rfl,rfl,rfl,g7,v7,rfl,hfr,hch,Ch.refl _ _,hw,r7,o7⟩ (fun X rec hrec=>?_);rintro ⟨zs,j⟩ e ds w1 ⟨rfl,e1,e5,e27,e28,e29,e44,e45,e46,g,v8,e8,hfr,hch,hch7,hw,rz,oz⟩ hk;refine E_sr (EL_in (.bool (decide (j < (a.Harness.Warps.length:Int)))) e46 e45 rfl rfl (EL_nt ?_));rcases Zt hk with ⟨hc,hk⟩ | ⟨hc,hk⟩
     ·refine Zf (E_ct hc rfl (Zu (Zd ?_)))
      obtain ⟨b,hb,hk⟩:=bsome hk;obtain ⟨yy,hyy,hk⟩:=bsome hk;have rh1:=rh.ch hch7;refine Zf (Zr (E_sr (EL_p (ePtr hv j 1) (Zh (α:=Int) Tryz.underlying22 Tryz.sizeOf3 e44 rh1 e46 hb) rfl (EL_d0 rfl (D_load (g:=g) Tryz.isAgg3 Tryz.sizeOf3 rfl (PT_idx rh1 hb) fun vb rb=>?_)))));obtain rfl:=Zj.1 rb;refine Zg (Iz b) rfl rfl (EL_nt (Za (Zo e8 rfl (Zn (Iz b) rfl rfl (EL_p (AnyV.int b:AnyT).v (P_anyInt Tryz.underlying3 rfl) rfl (EL_d0 rfl (D_buildSlice (g:=g) 4 (xs:=([.int b]:List AnyT)) (vs:=[_]) Tryz.underlying135 Tryz.sizeOf20 Tryz.zeroValue20 rfl rfl (.cons rfl .nil) (RVs.cons (RV_any.2 rfl) RVs.nil) rfl rfl fun g2 w2 v2 _ _ r2 hx2 _=>(EL_d0 rfl (D_append (g:=g2) (i:=3) Tryz.underlying135 info_20w rfl rfl (oz.ext hx2) (rz.ext hx2) rfl r2 hyy fun g3 w3 v3 hs3 o3 r3 _=>(Zg v3 rfl rfl (Zb (blk_n (Zd (Za (EL_in (Iz (w64 (j + (1:Int)))) e46 rfl rfl rfl (Zn (Iz (w64 (j + (1:Int)))) rfl rfl ?_))))))))))))))));exact EL_nt (hrec (yy,w64 (j + 1)) _ _ _ ⟨rfl,e1,e5,e27,e28,e29,e44,e45,rfl,g3,v3,rfl,(hfr.ext hx2).stp hs3,hch.trans (hx2.ch.trans hs3.ch),hch7.trans (hx2.ch.trans hs3.ch),(hw.ext hx2).stp hs3 rfl,r3,o3⟩ hk)
     ·refine Zf (E_cf hc rfl (E_exit (thn_e (thn_e (blk_hit ?_)))))
      obtain rfl:=sinj hk;exact hQ3 _ _ _ ⟨rfl,e1,e5,e27,e28,e29,g,v8,e8,hfr,hch,hw,rz⟩
    ·obtain ⟨rfl, e1, e5, e27, e28, e29, g, v8, e8, hfr, hch, hw, rz⟩ := hR
     refine Za (Zo e5 rfl (Zo e8 rfl (EL_d0 rfl (D_callC (vs:=[.pointer (some ⟨bk,0,none⟩),v8]) en68 (.cons rfl (.cons rfl .nil)) (wk68 (hT5.ch hch) hw rz hy) fun q9 w9 h9=>?_))));obtain ⟨g9,hs9,hw9⟩:=h9;exact Zb (blk_n (hQ2 _ _ _ ⟨rfl,e1,e5,e27,e28,e29,g9,hfr.stp hs9,hch.trans hs9.ch,hw9⟩))
   ·obtain ⟨rfl, e1, e5, e27, e28, e29, g, hfr, hch, hw⟩ := hR
    refine Za (EL_in (Iz (w64 (n + (1:Int)))) e29 rfl rfl rfl (Zn (Iz (w64 (n + (1:Int)))) rfl rfl ?_));exact EL_nt (hrec (y,w64 (n + 1)) _ _ _ ⟨rfl,e1,e5,e27,e28,rfl,g,hfr,hch,hw⟩ hk)
  ·refine Zf (E_cf hc rfl (E_exit (thn_e (thn_e (blk_hit ?_)))))
   obtain rfl:=sinj hk;exact hQ _ _ _ ⟨rfl,e1,e5,g,hfr,hch,hw⟩
 obtain ⟨rfl,e1,e5,g6,hfr6,hch6,hw6⟩:=hR;have q6:=q5.ch hch6;have hT6:=hT5.ch hch6;clear hfr hs1 hw5 q5 hT5 hch6 hs0;refine E_joinD (fun e ds w'=>ds=[]∧e 5=.pointer (some ⟨bk,0,none⟩)∧∃ g',Fr gI wI g' w'∧Ch g6.m w6 g'.m w'∧WR 1 g' w' 5 133 s2 (.pointer (some ⟨bk,0,none⟩))) (fun Q' hQ=>?_) (fun e ds w' hR=>?_)
 ·clear h
  refine E_sr (EL_p (fPtr p1 1) (Zc at_39_1 e1 (PT.ptr q6)) rfl (EL_d0 rfl (D_load (g:=g6) Tryz.isAgg37 Tryz.sizeOf37 rfl (Zm part_BookMill_1.1 q6) fun tv rt=>(EL_p (Iz (x0.Chains.length:Int)) (P_len (v:=tv) Tryz.underlying37 rfl rt) rfl (Zn (Iz 0) rfl rfl (EL_nt (Zr ?_)))))));unfold wChains at hs2;refine E_lpD hs2 (fun (z:(List UInt8 × Int) × Int) e ds w'=>ds=[]∧e 5=.pointer (some ⟨bk,0,none⟩)∧e 61=tv∧e 62=Iz (x0.Chains.length:Int)∧e 63=Iz z.2∧∃ g',Fr gI wI g' w'∧Ch g6.m w6 g'.m w'∧WR 1 g' w' 5 133 z.1 (.pointer (some ⟨bk,0,none⟩))) ⟨rfl,e5,rfl,rfl,rfl,g6,hfr6,Ch.refl _ _,hw6⟩ (fun X rec hrec=>?_);rintro ⟨s,n⟩ e ds w1 ⟨rfl,e5,e61,e62,e63,g,hfr,hch,hw⟩ hk;refine E_sr (EL_in (.bool (decide (n < (x0.Chains.length:Int)))) e63 e62 rfl rfl (EL_nt ?_));rcases Zt hk with ⟨hc,hk⟩ | ⟨hc,hk⟩
  ·refine Zf (E_ct hc rfl (Zu (Zd ?_)))
   obtain ⟨a,ha,hk⟩:=bsome hk;obtain ⟨sa,hsa,hk⟩:=bsome hk;obtain ⟨y,hy,hk⟩:=bsome hk;refine E_joinD (fun e ds w'=>ds=[]∧e 5=.pointer (some ⟨bk,0,none⟩)∧e 61=tv∧e 62=Iz (x0.Chains.length:Int)∧e 63=Iz n∧∃ g',Fr gI wI g' w'∧Ch g6.m w6 g'.m w'∧WR 1 g' w' 5 133 y (.pointer (some ⟨bk,0,none⟩))) (fun Q2 hQ2=>?_) (fun e ds w2 hR=>?_)
   ·refine Zr (E_sr ?_)
    have rt1:=rt.ch hch;refine EL_p (ePtr tv n 3) (Zh (α:=BookChain) Tryz.underlying37 Tryz.sizeOf94 e61 rt1 e63 ha) rfl (EL_d0 rfl (D_load (g:=g) Tryz.isAgg94 Tryz.sizeOf94 rfl (PT_idx rt1 ha) fun va ra=>(EL_d0 rfl (D_allocO (g:=g) 2 (⟨⟨[]⟩,⟨0,[]⟩⟩:BookChain) Tryz.zeroValue94 (fun m w=>⟨_,rep_two rep_str (rep_two rep_int rep_nil),rfl⟩) fun g2 w2 pt hs2 b2=>(EL_d0 rfl (D_storeO (g:=g2) (v:=va) Tryz.sizeOf94 rfl b2 rfl (ra.stp hs2) fun g3 w3 hs3 b3=>?_))))));obtain ⟨g4,hs4,q4⟩:=b3.pub;have hfr:=((hfr.stp hs2).stp hs3).stp hs4;have hch:=hch.trans (hs2.ch.trans (hs3.ch.trans hs4.ch));have hw:=((hw.stp hs2 rfl).stp hs3 rfl).stp hs4 rfl;clear b2 b3 hs2 hs3 hs4 ra rt1;refine EL_nt (E_sr ?_);have qh:=Zm part_BookChain_1.1 q4;refine Zo e5 rfl (EL_p (AnyV.str ⟨[99,104,97,105,110]⟩:AnyT).v (P_anyStr Tryz.underlying9 rfl) rfl (EL_p (fPtr pt 0) (Zc at_94_0 rfl (PT.ptr q4)) rfl (EL_d0 rfl (D_load (g:=g4) Tryz.isAgg9 Tryz.sizeOf9 rfl (Zm part_BookChain_0.1 q4) fun v5 r5=>?_))));obtain rfl:=RV_str.1 r5;refine EL_p (AnyV.str a.Name:AnyT).v (P_anyStr Tryz.underlying9 rfl) rfl (EL_p (fPtr pt 1) (Zc at_94_1 rfl (PT.ptr q4)) rfl (EL_p (fPtr (fPtr pt 1) 0) (Zc at_92_0 rfl (PT.ptr qh)) rfl (EL_d0 rfl (D_load (g:=g4) Tryz.isAgg3 Tryz.sizeOf3 rfl (Zm part_ChainBelt_0.1 qh) fun v6 r6=>?_))));obtain rfl:=Zj.1 r6;refine EL_p (AnyV.int a.Chain.Hooks:AnyT).v (P_anyInt Tryz.underlying3 rfl) rfl (EL_d0 rfl (D_buildSlice (g:=g4) 3 (xs:=([.str ⟨[99,104,97,105,110]⟩,.str a.Name,.int a.Chain.Hooks]:List AnyT)) (vs:=[_,_,_]) Tryz.underlying135 Tryz.sizeOf20 Tryz.zeroValue20 rfl rfl (.cons rfl (.cons rfl (.cons rfl .nil))) (RVs.cons (RV_any.2 rfl) (RVs.cons (RV_any.2 rfl) (RVs.cons (RV_any.2 rfl) RVs.nil))) rfl rfl fun g7 w7 v7 _ o7 r7 hx7 _=>?_));have hfr:=hfr.ext hx7;have hch:=hch.trans hx7.ch;have hw:=hw.ext hx7;refine EL_d0 rfl (D_callC (vs:=[.pointer (some ⟨bk,0,none⟩),v7]) en68 (.cons rfl (.cons rfl .nil)) (wk68 (hT6.ch hch) hw r7 hsa) fun q8 w8 h8=>?_);obtain ⟨g8,hs8,hw8⟩:=h8;have hfr:=hfr.stp hs8;have hch:=hch.trans hs8.ch;have hpt:=PT.ptr q4;have qh:=(qh.ext hx7).stp hs8;clear hx7 q4 r7 o7 hw;refine EL_nt (E_sr (EL_p (fPtr pt 1) (Zc at_94_1 rfl hpt) rfl (EL_p (fPtr (fPtr pt 1) 1) (Zc at_92_1 rfl (PT.ptr qh)) rfl (EL_d0 rfl (D_load (g:=g8) Tryz.isAgg90 Tryz.sizeOf90 rfl (Zm part_ChainBelt_1.1 qh) fun hv rh=>(EL_p (Iz (a.Chain.Cards.length:Int)) (P_len (v:=hv) Tryz.underlying90 rfl rh) rfl (Zn (Iz 0) rfl rfl (EL_nt (Zr ?_)))))))));unfold wCards at hy;refine E_lpD hy (fun (z:(List UInt8 × Int) × Int) e ds w'=>ds=[]∧e 5=.pointer (some ⟨bk,0,none⟩)∧e 12=pt∧e 61=tv∧e 62=Iz (x0.Chains.length:Int)∧e 63=Iz n∧e 80=hv∧e 81=Iz (a.Chain.Cards.length:Int)∧e 82=Iz z.2∧∃ g',Fr gI wI g' w'∧Ch g6.m w6 g'.m w'∧Ch g8.m w8 g'.m w'∧WR 1 g' w' 5 133 z.1 (.pointer (some ⟨bk,0,none⟩))) ⟨rfl,e5,rfl,e61,e62,e63,rfl,rfl,rfl,g8,hfr,hch,Ch.refl _ _,hw8⟩ (fun X rec hrec=>?_);rintro ⟨sz,j⟩ e ds w1 ⟨rfl,e5,e12,e61,e62,e63,e80,e81,e82,g,hfr,hch,hch8,hw⟩ hk;refine E_sr (EL_in (.bool (decide (j < (a.Chain.Cards.length:Int)))) e82 e81 rfl rfl (EL_nt ?_));rcases Zt hk with ⟨hc,hk⟩ | ⟨hc,hk⟩
    ·refine Zf (E_ct hc rfl (Zu (Zd ?_)))
     obtain ⟨b,hb,hk⟩:=bsome hk;obtain ⟨yy,hyy,hk⟩:=bsome hk;have rh1:=rh.ch hch8;refine Zf (Zr (E_sr (EL_p (ePtr hv j 3) (Zh (α:=ChainCard) Tryz.underlying90 Tryz.sizeOf96 e80 rh1 e82 hb) rfl (EL_d0 rfl (D_load (g:=g) Tryz.isAgg96 Tryz.sizeOf96 rfl (PT_idx rh1 hb) fun vb rb=>(EL_d0 rfl (D_allocO (g:=g) 2 (⟨0,0,false⟩:ChainCard) Tryz.zeroValue96 (fun m w=>⟨_,rep_two rep_int (rep_two rep_int rep_bool),rfl⟩) fun g2 w2 pc hs2 b2=>(EL_d0 rfl (D_storeO (g:=g2) (v:=vb) Tryz.sizeOf96 rfl b2 rfl (rb.stp hs2) fun g3 w3 hs3 b3=>?_)))))))));obtain ⟨g4,hs4,q4⟩:=b3.pub;have hfr:=((hfr.stp hs2).stp hs3).stp hs4;have hch4:=hs2.ch.trans (hs3.ch.trans hs4.ch);have hw:=((hw.stp hs2 rfl).stp hs3 rfl).stp hs4 rfl;refine EL_nt (Za (Zo e5 rfl (EL_d0 rfl (D_load (g:=g4) Tryz.isAgg96 Tryz.sizeOf96 rfl q4 fun vc rc=>(EL_p (fPtr pt 1) (Zc at_94_1 e12 hpt) rfl ?_)))));have qh4:=(qh.ch hch8).ch hch4;refine EL_p (fPtr (fPtr pt 1) 0) (Zc at_92_0 rfl (PT.ptr qh4)) rfl (EL_d0 rfl (D_load (g:=g4) Tryz.isAgg3 Tryz.sizeOf3 rfl (Zm part_ChainBelt_0.1 qh4) fun v6 r6=>?_));obtain rfl:=Zj.1 r6;refine EL_d0 rfl (D_callC (vs:=[.pointer (some ⟨bk,0,none⟩),vc,Iz a.Chain.Hooks]) en69 (.cons rfl (.cons rfl (.cons rfl .nil))) (wk69 (hT6.ch (hch.trans hch4)) hw rc hyy) fun q9 w9 h9=>?_);obtain ⟨g9,hs9,hw9⟩:=h9;refine Zb (blk_n (Zd (Za (EL_in (Iz (w64 (j + (1:Int)))) e82 rfl rfl rfl (Zn (Iz (w64 (j + (1:Int)))) rfl rfl ?_)))));exact EL_nt (hrec (yy,w64 (j + 1)) _ _ _ ⟨rfl,e5,e12,e61,e62,e63,e80,e81,rfl,g9,hfr.stp hs9,hch.trans (hch4.trans hs9.ch),hch8.trans (hch4.trans hs9.ch),hw9⟩ hk)
    ·refine Zf (E_cf hc rfl (E_exit (thn_e (thn_e (blk_hit ?_)))))
     obtain rfl:=sinj hk;exact blk_n (hQ2 _ _ _ ⟨rfl,e5,e61,e62,e63,g,hfr,hch,hw⟩)
   ·obtain ⟨rfl, e5, e61, e62, e63, g, hfr, hch, hw⟩ := hR
    refine Za (EL_in (Iz (w64 (n + (1:Int)))) e63 rfl rfl rfl (Zn (Iz (w64 (n + (1:Int)))) rfl rfl ?_));exact EL_nt (hrec (y,w64 (n + 1)) _ _ _ ⟨rfl,e5,e61,e62,rfl,g,hfr,hch,hw⟩ hk)
  ·refine Zf (E_cf hc rfl (E_exit (thn_e (thn_e (blk_hit ?_)))))
   obtain rfl:=sinj hk;exact hQ _ _ _ ⟨rfl,e5,g,hfr,hch,hw⟩
 clear e1 e5;obtain ⟨rfl,e5,g7,hfr7,hch7,hw7⟩:=hR;have hT7:=hT6.ch hch7;clear hfr6 hch7 hT6 q6 hw6 hs2;rcases Zt h with ⟨hc,h⟩ | ⟨hc,h⟩
 ·cases h
 obtain ⟨sm,hsm,h⟩:=bsome h;obtain ⟨s3,hs3,h⟩:=bsome h;rcases Zt h with ⟨hc3,h⟩ | ⟨hc3,h⟩
 ·cases h
 obtain rfl:=sinj h;refine Zf ?_;obtain ⟨b,av,vv,hp,hb7,hz7,hne7,ha7⟩:=hw7;injection hp with hp; injection hp with hp; injection hp with hp _;subst hp;have hw7:WR 1 g7 w' 5 133 s2 (.pointer (some ⟨bk,0,none⟩)):=⟨_,av,vv,rfl,hb7,hz7,hne7,ha7⟩;have hlt7:=hb7.lt;have hbx:HBm 7 { m:=g7.m,o:=fun b=>if b=bk then 7 else g7.o b } w' bk (.cells #[av,vv,Iz s2.2] 133 (0,0)):=⟨by simp,hb7.2.1,hb7.2.2⟩;have hl:=L_ldW Tryz.isAgg3 hbx (o:=2) (c:=Iz s2.2) rfl;refine E_drawC (g:={ m:=g7.m,o:=fun b=>if b=bk then 7 else g7.o b }) (n:=14) [0,1,2,3,4,5,6,7,8,9,12] [7] [0,1,2,3,4,5,6,7,8,9,10,11,12,13] rfl mixedS (by kernel_rfl) fun wc hx hlt=>?_;have hxc:Ext g7 w' g7 wc:=⟨hx.below,fun _ _=>rfl,fun _ _=>rfl⟩;have hwc:=hw7.ext hxc;have hTc:=hT7.ext hxc;refine CH_pur (c:=.pointer (some ⟨bk,0,none⟩)) rfl rfl .plain (Zk e5) (CH_pur (c:=(AnyV.str ⟨[101,110,100]⟩:AnyT).v) rfl rfl .plain (P_anyStr Tryz.underlying9 rfl) (CH_pur (c:=.pointer (some ⟨bk,0,none⟩)) rfl rfl .plain (Zk e5) (CH_pur (c:=.pointer (some ⟨bk,0,none⟩)) rfl rfl .plain (P_nilCheck rfl) (CH_pur (c:=.pointer (some ⟨bk,2,none⟩)) rfl rfl .plain (show Pur _ _ _ (fPtr (.pointer (some ⟨bk,0,none⟩)) 2) from Zc atW_1 rfl ⟨bk,0,rfl⟩) (CH_ldO (n:=7) (c:=Iz s2.2) rfl rfl .plain (hl _) rfl rfl (CH_pur (c:=(AnyV.int s2.2:AnyT).v) rfl rfl .plain (P_anyInt Tryz.underlying3 rfl) (CH_pur (c:=.pointer (some ⟨bk,0,none⟩)) rfl rfl .plain (Zk e5) (CH_pur (c:=.pointer (some ⟨bk,0,none⟩)) rfl rfl .plain (P_nilCheck rfl) (CH_pur (c:=.pointer (some ⟨bk,0,none⟩)) rfl rfl .plain (show Pur _ _ _ (fPtr (.pointer (some ⟨bk,0,none⟩)) 0) from Zc atW_0 rfl ⟨bk,0,rfl⟩) (CH_do rfl rfl .plain (D_callC (vs:=[.pointer (some ⟨bk,0,none⟩)]) en71 (.cons rfl .nil) (wst hwc (nemp hc)) fun q8 w8 h8=>?_)))))))))));obtain ⟨rfl,hbk8,g8,hs8,hw8⟩:=h8;have hbk8:=hbk8 bk rfl;have hst8:Stp 1 g7 w' g8 w8:=hxc.stp.trans hs8;have hhb8:w8.heap[bk]?=w'.heap[bk]?:=hbk8.trans (hxc.below.block bk hlt7);refine ⟨(retagW hb7.1 hst8 hhb8).toW,?_⟩;refine CH_do rfl rfl .plain (Zp (g:=g8) (vs:=[Str.v ⟨s2.1⟩]) en70 (.cons rfl .nil) (wk70 hsm) fun g9 w9 v9 hx9 hv9=>?_);subst hv9;have hlt8:bk < w8.heap.size:=lt_of_heap (hhb8.trans hb7.2.2);have hhb9:w9.heap[bk]?=w'.heap[bk]?:=(hx9.below.block bk hlt8).trans hhb8;refine ⟨(retagW hb7.1 (hst8.trans hx9.stp) hhb9).toW,?_⟩;refine CH_pur (c:=(AnyV.int sm:AnyT).v) rfl rfl .plain (P_anyInt Tryz.underlying3 rfl) (CH_do rfl rfl .plain (D_buildSlice (g:=g9) 3 (xs:=([.str ⟨[101,110,100]⟩,.int s2.2,.int sm]:List AnyT)) (vs:=[_,_,_]) Tryz.underlying135 Tryz.sizeOf20 Tryz.zeroValue20 rfl rfl (.cons rfl (.cons rfl (.cons rfl .nil))) (RVs.cons (RV_any.2 rfl) (RVs.cons (RV_any.2 rfl) (RVs.cons (RV_any.2 rfl) RVs.nil))) rfl rfl fun g10 w10 v10 _ o10 r10 hx10 _=>?_));have hlt9:bk < w9.heap.size:=lt_of_heap (hhb9.trans hb7.2.2);refine ⟨(retagW hb7.1 ((hst8.trans hx9.stp).trans hx10.stp) ((hx10.below.block bk hlt9).trans hhb9)).toW,?_⟩;refine CH_nil ?_;have hw10:=(hw8.ext hx9).ext hx10;have hT10:=hT7.ch (hst8.ch.trans (hx9.ch.trans hx10.ch));have hfr10:=((hfr7.stp hst8).ext hx9).ext hx10;refine EL_d0 rfl (D_callC (vs:=[.pointer (some ⟨bk,0,none⟩),v10]) en68 (.cons rfl (.cons rfl .nil)) (wk68 hT10 hw10 r10 hs3) fun q11 w11 h11=>?_);obtain ⟨g11,hs11,hw11⟩:=h11;refine EL_nt (E_sr (Zo e5 rfl (EL_p (.pointer (some ⟨bk,0,none⟩)) (P_nilCheck rfl) rfl (EL_p (.pointer (some ⟨bk,0,none⟩)) (show Pur _ _ _ (fPtr (.pointer (some ⟨bk,0,none⟩)) 0) from Zc atW_0 rfl ⟨bk,0,rfl⟩) rfl (EL_d0 rfl (D_callC (vs:=[.pointer (some ⟨bk,0,none⟩)]) en71 (.cons rfl .nil) (wst hw11 (nemp hc3)) fun q12 w12 h12=>?_))))));obtain ⟨rfl,_,g12,hs12,hw12⟩:=h12;refine Zg (Str.v ⟨s3.1⟩) rfl rfl (Zg (Iz 0) rfl rfl (EL_nt (E_ret ?_)));exact end2 rfl rfl rfl rfl ⟨_,(hfr10.stp hs11).stp hs12,_,_,rfl,rfl,rfl⟩

theorem flat_fvs {m : Nat → Nat} {w : World} : ∀ {rows : List Fv} {cs : List Value}, FlatR m w rows cs → cs = rows.map (·.v)
 | [],_,h=>h
 | _ :: _,_,⟨_,_,rfl,h1,h2⟩=>by
  have h1:_=[_]:=h1
  rw [h1,flat_fvs h2]; rfl
theorem RO.ofOA {i:Nat} {g:Gh} {w:World} {t:TypeId} {rows:List Fv} {v:Value} (h:OA i g w t rows v):RO i g w t rows v:=by
 rcases h with h | ⟨b,c,cs,hv,ho,hm,hh,h1,h2,h3,hf⟩
 ·exact .inl h
 ·refine .inr ⟨b, c, cs, hv, ho, hm, hh, h1, h2, by simpa [GoT.k] using h3, fun n r hn => ?_⟩
  have hk:GoT.k Fv=1:=rfl;have he:=flat_fvs hf;have hl:n < rows.length:=(List.getElem?_eq_some_iff.1 hn).1
  have h5:(cs.toList.take (rows.length * GoT.k Fv))[n]?=some r.v:=by rw [he]; simp [hn]
  rw [List.getElem?_take,hk,if_pos (by omega)] at h5;simpa using h5
theorem pool_nil {α:Type} [GoT α] {t:TypeId} {j:Nat} {g:Gh} {w:World} (n:Nat):Pool (RS (α:=α) t) j g w (List.replicate n (⟨.slice none 0 0,rfl⟩:Fv)) (List.replicate n []) none:=by
 refine ⟨by simp,fun k r x _ h1 h2=>?_,fun k k' r r' _ _ _ h1 h2=>?_⟩
 ·obtain ⟨_, rfl⟩ := List.getElem?_eq_some_iff.1 h1
  obtain ⟨_,rfl⟩:=List.getElem?_eq_some_iff.1 h2;simp only [List.getElem_replicate];exact ⟨OS.nil,RV_nil⟩
 ·obtain ⟨_, rfl⟩ := List.getElem?_eq_some_iff.1 h1
  simp only [List.getElem_replicate];intro b n c b' n' c' h
  cases h
theorem info_167w:(Tryz.prog.info? 167).map (fun i=>(i.zero,i.size,i.bytes))=some (some (.agg #[.int .i64 0,.int .i64 0]),2,16):=by kernel_rfl
theorem info_104w:(Tryz.prog.info? 104).map (fun i=>(i.zero,i.size,i.bytes))=some (some (.slice none 0 0),1,24):=by kernel_rfl
noncomputable def f43 (m:BookMill) (l:List (List UInt8)):Option ((List (List Str)) × Int × Int):=
  (f67 m).bind fun ck=>bif ck != (0:Int) then some ([],0,ck) else
  (f95 l).bind fun jn=>bif jn.2.2 != (0:Int) then some ([],jn.2.1,jn.2.2) else
  lp (σ:=(List BookCylinder × List (List Str)) × Int) (fun k z=>bif decide (z.2 < (jn.1.length:Int)) then (idx jn.1 z.2).bind fun c=>
    bif (bif decide (c.Chain ≥ (m.Chains.length:Int)) then true else decide (c.Tie ≥ (m.Ties.length:Int))) then some ([],z.2,7) else
    (idx z.1.1 c.Loom).bind fun cy=>(f96 cy m c).bind fun wv=>
    bif wv.2.1 != (0:Int) then some ([],z.2,wv.2.1) else
    (idx z.1.2 c.Loom).bind fun rw=>(apnd 16 rw wv.1).bind fun y=>k ((z.1.1.set c.Loom.toNat wv.2.2,z.1.2.set c.Loom.toNat y),w64 (z.2 + (1:Int)))
   else some (z.1.2,0,0)) big ((List.replicate 16 ⟨0,0⟩,List.replicate 16 []),0)
theorem en43:Enters Tryz.prog 43:=enters_of Tryz.func43 (by kernel_rfl) rfl
theorem wk43 {gI : Gh} {wI : World} {x0 : BookMill} {x1 : List (List UInt8)} {up0 up1 : Value} (rp0 : RV gI.m wI x0 up0) (rp1 : RV gI.m wI x1 up1) {r : (List (List Str)) × Int × Int} (h : f43 x0 x1 = some r) :
  Fn Tryz.prog 43 #[up0,up1] gI wI (fun m w v=>∃ y0 y1 y2,v=.tuple #[y0,y1,y2]∧RV m w r.1 y0∧y1=Iz r.2.1∧y2=Iz r.2.2):=by
 unfold f43 at h
 obtain ⟨ck,hck,h⟩:=bsome h
 refine fnE Tryz.func43 rfl rfl fun g0 hm hfr=>?_
 have rp0:=RVc hm rp0
 have rp1:=RVc hm rp1
 show E _ 82 none _ _ _ _ _
 refine E_sr (EL_d0 rfl (D_box (g:=g0) rfl rp0 fun g1 w1 p2 hx1 q2=>?_))
 have hfr:=hfr.ext hx1
 have rp1:=rp1.ext hx1
 refine Zg (.slice none 0 0) rfl rfl (Zg (Iz 0) rfl rfl (Zg (Iz 0) rfl rfl (EL_nt (Zf (E_sr (EL_d0 rfl (D_load (g:=g1) Tryz.isAgg39 Tryz.sizeOf39 rfl q2 fun vm rm=>(EL_d0 rfl (Zp (g:=g1) (vs:=[vm]) en67 (.cons rfl .nil) (wk67 rm hck) fun g2 w2 v2 hx2 hv2=>?_)))))))))
 subst hv2
 have hfr:=hfr.ext hx2
 have rp1:=rp1.ext hx2
 have q2:=q2.ext hx2
 refine Zg (Iz ck) rfl rfl (EL_nt (E_sr (Zn (Iz ck) rfl rfl (EL_in (.bool (ck != (0:Int))) rfl rfl rfl rfl (EL_nt ?_)))))
 rcases Zt h with ⟨hc,h⟩ | ⟨hc,h⟩
 ·refine E_ct hc rfl (E_sr (Zn (Iz ck) rfl rfl (Zg (.slice none 0 0) rfl rfl (Zg (Iz 0) rfl rfl (Zg (Iz ck) rfl rfl (EL_nt (E_ret (thn_r ?_))))))))
  obtain rfl:=sinj h
  exact end3 rfl rfl rfl rfl rfl ⟨_,hfr,_,_,_,rfl,RV_nil,rfl,rfl⟩
 refine E_cf hc rfl (Zu (Zd ?_))
 obtain ⟨jn,hjn,h⟩:=bsome h
 refine E_sr (Zn up1 rfl rfl (EL_d0 rfl (Zp (g:=g2) (vs:=[up1]) en95 (.cons rfl .nil) (wk95 rp1 hjn) fun g3 w3 v3 hx3 hv=>?_)))
 obtain ⟨lv,y1,y2,rfl,rl,rfl,rfl⟩:=hv
 have hfr:=hfr.ext hx3
 have q2:=q2.ext hx3
 refine Zn (.tuple #[lv,Iz jn.2.1,Iz jn.2.2]) rfl rfl (EL_p lv (Zi rfl rfl) rfl (EL_p (Iz jn.2.1) (Zi rfl rfl) rfl (EL_p (Iz jn.2.2) (Zi rfl rfl) rfl (Zg lv rfl rfl (Zg (Iz jn.2.1) rfl rfl (Zg (Iz jn.2.2) rfl rfl (EL_nt (Zf (E_sr (Zn (Iz jn.2.2) rfl rfl (EL_in (.bool (jn.2.2 != (0:Int))) rfl rfl rfl rfl (EL_nt ?_))))))))))))
 rcases Zt h with ⟨hc2,h⟩ | ⟨hc2,h⟩
 ·refine E_ct hc2 rfl (E_sr (Zn (Iz jn.2.1) rfl rfl (Zn (Iz jn.2.2) rfl rfl (Zg (.slice none 0 0) rfl rfl (Zg (Iz jn.2.1) rfl rfl (Zg (Iz jn.2.2) rfl rfl (EL_nt (E_ret ?_))))))))
  obtain rfl:=sinj h
  exact end3 rfl rfl rfl rfl rfl ⟨_,hfr,_,_,_,rfl,RV_nil,rfl,rfl⟩
 refine E_cf hc2 rfl (Zu (Zd (E_sr (EL_d0 rfl (D_makeSliceA (g:=g3) 3 (⟨0,0⟩:BookCylinder) (n:=16) (r:=List.replicate 16 ⟨0,0⟩) Tryz.underlying164 info_167w rfl (fun m w=>⟨_,rep_two rep_int rep_int,rfl⟩) rfl rfl rfl fun g4 w4 v9 hs4 o9=>(Zg v9 rfl rfl (EL_nt (E_sr ?_))))))))
 have m9:=o9.toM
 obtain ⟨ah,chh,hh9,_⟩:=m9.hdr
 refine Zn v9 rfl rfl (EL_p (Iz 16) (show Pur _ _ _ (Iz ((16:Nat):Int)) from P_lenH Tryz.underlying164 rfl ⟨ah,chh,hh9⟩) rfl (EL_d0 rfl (D_makeSliceA (g:=g4) 4 (⟨.slice none 0 0,rfl⟩:Fv) (n:=16) (r:=List.replicate 16 ⟨.slice none 0 0,rfl⟩) Tryz.underlying72 info_104w rfl (fun m w=>⟨_,rfl,rfl⟩) rfl rfl rfl fun g5 w5 v4 hs5 o4=>(Zg v4 rfl rfl ?_))))
 have ns0:NS (RS (α:=Str) 9) 4 5 g5 w5 104 (List.replicate 16 []) v4:=⟨_,RO.ofOA o4,pool_nil 16⟩
 have hfr:=(hfr.stp hs4).stp hs5
 have q2:=(q2.stp hs4).stp hs5
 have rl:=(rl.stp hs4).stp hs5
 have m9:=m9.stp hs5 rfl
 clear hx1 hx2 hx3 hs4 hs5 o9 o4 rm rp1 hh9 hck hjn hc hc2
 refine EL_nt (Zf (E_sr (Zn lv rfl rfl (EL_p (Iz (jn.1.length:Int)) (P_len (v:=lv) Tryz.underlying49 rfl rl) rfl (Zn (Iz 0) rfl rfl (EL_nt (Zr (E_lpD h (fun (z:(List BookCylinder × List (List Str)) × Int) e ds w'=>ds=[]∧e 2=p2∧e 4=v4∧e 9=v9∧e 33=lv∧e 34=Iz (jn.1.length:Int)∧e 35=Iz z.2∧∃ g',Fr gI wI g' w'∧Ch g5.m w5 g'.m w'∧OM 3 g' w' 167 z.1.1 v9∧NS (RS (α:=Str) 9) 4 5 g' w' 104 z.1.2 v4) ⟨rfl,rfl,rfl,rfl,rfl,rfl,rfl,g5,hfr,Ch.refl _ _,m9,ns0⟩ (fun X rec hrec=>?_)))))))))
 clear m9 ns0 hfr
 rintro ⟨⟨lo,ri⟩,n⟩ e ds w ⟨rfl,e2,e4,e9,e33,e34,e35,g,hfr,hch,ml,nr⟩ hk
 refine E_sr (EL_in (.bool (decide (n < (jn.1.length:Int)))) e35 e34 rfl rfl (EL_nt ?_))
 rcases Zt hk with ⟨hc,hk⟩ | ⟨hc,hk⟩
 ·refine Zf (E_ct hc rfl (Zu (Zd ?_)))
  obtain ⟨c,hcl,hk⟩:=bsome hk
  have rl1:=rl.ch hch
  have q1:=q2.ch hch
  refine Zf (Zr (E_sr (Zo e35 rfl (EL_p (ePtr lv n 5) (Zh (α:=BookCloth) Tryz.underlying49 Tryz.sizeOf63 e33 rl1 e35 hcl) rfl (EL_d0 rfl (D_load (g:=g) Tryz.isAgg63 Tryz.sizeOf63 rfl (PT_idx rl1 hcl) fun vc rc=>(EL_d0 rfl (D_allocO (g:=g) 2 (⟨0,0,0,0,0⟩:BookCloth) Tryz.zeroValue63 (fun m w=>⟨_,rep_two rep_int (rep_two rep_int (rep_two rep_int (rep_two rep_int rep_int))),rfl⟩) fun g2 w2 pc hs2 b2=>(Zg (Iz n) rfl rfl (EL_d0 rfl (D_storeO (g:=g2) (v:=vc) Tryz.sizeOf63 rfl b2 rfl (rc.stp hs2) fun g3 w3 hs3 b3=>?_)))))))))))
  obtain ⟨g4,hs4,qc⟩:=b3.pub
  have hfr:=((hfr.stp hs2).stp hs3).stp hs4
  have hch:=hch.trans (hs2.ch.trans (hs3.ch.trans hs4.ch))
  have ml:=((ml.stp hs2 rfl).stp hs3 rfl).stp hs4 rfl
  have nr:=((nr.stp (rowS 9) hs2 rfl rfl).stp (rowS 9) hs3 rfl rfl).stp (rowS 9) hs4 rfl rfl
  have q1:=((q1.stp hs2).stp hs3).stp hs4
  clear b2 b3 hs2 hs3 hs4 rl1 rc
  refine EL_nt (Zf (E_sr (EL_p (fPtr pc 2) (Zc at_63_2 rfl (PT.ptr qc)) rfl (EL_d0 rfl (D_load (g:=g4) Tryz.isAgg3 Tryz.sizeOf3 rfl (Zm part_BookCloth_2.1 qc) fun v r=>?_)))))
  obtain rfl:=Zj.1 r
  refine EL_p (fPtr p2 1) (Zc at_39_1 e2 (PT.ptr q1)) rfl (EL_d0 rfl (D_load (g:=g4) Tryz.isAgg37 Tryz.sizeOf37 rfl (Zm part_BookMill_1.1 q1) fun vch rch=>(EL_p (Iz (x0.Chains.length:Int)) (P_len (v:=vch) Tryz.underlying37 rfl rch) rfl (EL_in (.bool (decide (c.Chain ≥ (x0.Chains.length:Int)))) rfl rfl rfl rfl (Zn (.bool (decide (c.Chain ≥ (x0.Chains.length:Int)))) rfl rfl ?_)))))
  rcases Bool.eq_false_or_eq_true (decide (c.Chain ≥ (x0.Chains.length:Int))) with hq | hq
  ·simp only [hq, cond_true] at hk
   iterate 6 refine EL_s rfl rfl hq rfl rfl ?_
   refine EL_p (.bool true) (Zl (b:=decide (c.Chain ≥ (x0.Chains.length:Int))) rfl (pick_t hq rfl)) rfl (EL_nt ?_)
   obtain rfl:=sinj hk
   refine E_ct rfl rfl (E_sr (Zn (Iz n) rfl rfl (Zg (.slice none 0 0) rfl rfl (Zg (Iz n) rfl rfl (Zg (Iz 7) rfl rfl (EL_nt (E_ret (thn_r (blk_r (thn_r (thn_r (blk_r (thn_r ?_)))))))))))))
   exact end3 rfl rfl rfl rfl rfl ⟨_,hfr,_,_,_,rfl,RV_nil,rfl,rfl⟩
  simp only [hq,cond_false] at hk
  refine EL_y (fPtr pc 3) (Zc at_63_3 rfl (PT.ptr qc)) rfl rfl hq rfl (Ze (.yes2 rfl rfl hq) rfl (D_load (g:=g4) Tryz.isAgg3 Tryz.sizeOf3 rfl (Zm part_BookCloth_3.1 qc) fun v r=>?_))
  obtain rfl:=Zj.1 r
  refine EL_y (fPtr p2 0) (Zc at_39_0 e2 (PT.ptr q1)) rfl rfl hq rfl (Ze (.yes2 rfl rfl hq) rfl (D_load (g:=g4) Tryz.isAgg36 Tryz.sizeOf36 rfl (Zm part_BookMill_0.1 q1) fun vti rti=>(EL_y (Iz (x0.Ties.length:Int)) (P_len (v:=vti) Tryz.underlying36 rfl rti) rfl rfl hq rfl (EL_y (.bool (decide (c.Tie ≥ (x0.Ties.length:Int)))) (P_int rfl rfl rfl) rfl rfl hq rfl (EL_p (.bool (decide (c.Tie ≥ (x0.Ties.length:Int)))) (Zl (b:=decide (c.Chain ≥ (x0.Chains.length:Int))) rfl (pick_f hq rfl)) rfl (EL_nt ?_))))))
  rcases Zt hk with ⟨hq2,hk⟩ | ⟨hq2,hk⟩
  ·obtain rfl := sinj hk
   refine E_ct hq2 rfl (E_sr (Zn (Iz n) rfl rfl (Zg (.slice none 0 0) rfl rfl (Zg (Iz n) rfl rfl (Zg (Iz 7) rfl rfl (EL_nt (E_ret (thn_r (blk_r (thn_r (thn_r (blk_r (thn_r ?_)))))))))))))
   exact end3 rfl rfl rfl rfl rfl ⟨_,hfr,_,_,_,rfl,RV_nil,rfl,rfl⟩
  refine E_cf hq2 rfl (Zu (Zd ?_))
  obtain ⟨cy,hcy,hk⟩:=bsome hk
  obtain ⟨wv,hwv,hk⟩:=bsome hk
  clear rch rti
  refine Zf (Zs (x:=.tmp 57) Tryz.isAgg3 Tryz.sizeOf3 (Zm part_BookCloth_1.1 qc) fun v r hl1=>?_)
  obtain rfl:=Zj.1 r
  refine Zs (x:=.tmp 2) Tryz.isAgg39 Tryz.sizeOf39 q1 fun vm rm hl2=>(Zs (x:=.tmp 11) Tryz.isAgg63 Tryz.sizeOf63 qc fun vc rc hl3=>(E_drawC (g:=g4) (n:=12) [0,1,2,3,4,5,7,8,9,10,11] [] [0,1,2,3,4,5,6,7,8,9,10,11] rfl mixedS (by kernel_rfl) fun wc hx hlt=>(CH_pur (c:=v9) rfl rfl .plain (Zk e9) (CH_pur (c:=fPtr pc 1) rfl rfl .plain (Zc at_63_1 rfl (PT.ptr qc)) (CH_ldP (c:=Iz c.Loom) rfl rfl .plain hl1 rfl (CH_pur (c:=ePtr v9 c.Loom 2) rfl rfl .plain (P_indexAddrM (α:=BookCylinder) Tryz.underlying164 Tryz.sizeOf167 rfl ml rfl hcy) (CH_ldP (c:=vm) rfl rfl .plain hl2 e2 (CH_ldP (c:=vc) rfl rfl .plain hl3 rfl (CH_do rfl rfl .plain (D_callM (g:=g4) (i:=3) (vs:=[ePtr v9 c.Loom 2,vm,vc]) en96 (.cons rfl (.cons rfl (.cons rfl .nil))) (wk96 (ml.ext hx) hcy (rm.ext hx) (rc.ext hx) hwv) fun g5 w5 v5 hs5 hv5=>?_))))))))))
  obtain ⟨y0,_,rfl,ry,rfl,ml5⟩:=hv5
  refine ⟨((hlt.stp hs5 rfl)).toW,?_⟩
  refine CH_pur (c:=.tuple #[y0,Iz wv.2.1]) rfl rfl .plain (Zk rfl) (CH_pur (c:=y0) rfl rfl .plain (Zi rfl rfl) (CH_pur (c:=Iz wv.2.1) rfl rfl .plain (Zi rfl rfl) (CH_pur (c:=y0) rfl rfl .plain (P_assign rfl) (CH_pur (c:=Iz wv.2.1) rfl rfl .plain (P_assign rfl) (CH_nil (EL_nt ?_))))))
  replace hfr:=(hfr.ext hx).stp hs5
  replace hch:=(hch.trans hx.ch).trans hs5.ch
  replace nr:=(nr.ext (rowS 9) hx).stp (rowS 9) hs5 rfl rfl
  replace qc:=(qc.ext hx).stp hs5
  clear hx hs5 hlt rm rc hl1 hl2 hl3 ml q1
  refine Zf (E_sr (Zn (Iz wv.2.1) rfl rfl (EL_in (.bool (wv.2.1 != (0:Int))) rfl rfl rfl rfl (EL_nt ?_))))
  rcases Zt hk with ⟨hq3,hk⟩ | ⟨hq3,hk⟩
  ·obtain rfl := sinj hk
   refine E_ct hq3 rfl (E_sr (Zn (Iz n) rfl rfl (Zn (Iz wv.2.1) rfl rfl (Zg (.slice none 0 0) rfl rfl (Zg (Iz n) rfl rfl (Zg (Iz wv.2.1) rfl rfl (EL_nt (E_ret (thn_r (blk_r (thn_r (thn_r (blk_r (thn_r ?_))))))))))))))
   exact end3 rfl rfl rfl rfl rfl ⟨_,hfr,_,_,_,rfl,RV_nil,rfl,rfl⟩
  refine E_cf hq3 rfl (Zu (Zd ?_))
  obtain ⟨rw0,hrw,hk⟩:=bsome hk
  obtain ⟨y,hy,hk⟩:=bsome hk
  obtain ⟨rows,hro,hpo⟩:=nr
  obtain ⟨r0,hr0,hr1,hr2⟩:=hpo.idx hrw
  obtain ⟨g6,hg6,hs6,hrs,hpo6⟩:=hpo.take (rowS 9) hr1 hr2 6
  replace hro:=hro.stp hs6 rfl
  replace hfr:=hfr.stp hs6
  replace hch:=hch.trans hs6.ch
  replace ml5:=ml5.stp hs6 rfl
  replace qc:=qc.stp hs6
  replace ry:=ry.stp hs6
  refine Zs (x:=.tmp 70) Tryz.isAgg3 Tryz.sizeOf3 (Zm part_BookCloth_1.1 qc) fun v r hl1=>?_
  obtain rfl:=Zj.1 r
  refine Zs (x:=.tmp 73) Tryz.isAgg3 Tryz.sizeOf3 (Zm part_BookCloth_1.1 qc) fun v r hl2=>?_
  obtain rfl:=Zj.1 r
  refine L_loadM (x:=.tmp 75) Tryz.isAgg104 Tryz.sizeOf104 hro.toM hr0 fun u hu hl3=>?_
  obtain rfl:u=r0.v:=RV_fv.1 hu
  refine E_drawC (g:=g6) (n:=10) [0,1,2,3,4,5,6,7,8] [4] [0,1,2,3,4,5,6,7,8,9] rfl mixedS (by kernel_rfl) fun wd hx hlt=>(CH_pur (c:=v4) rfl rfl .plain (Zk e4) (CH_pur (c:=fPtr pc 1) rfl rfl .plain (Zc at_63_1 rfl (PT.ptr qc)) (CH_ldP (c:=Iz c.Loom) rfl rfl .plain hl1 rfl (CH_pur (c:=v4) rfl rfl .plain (Zk e4) (CH_pur (c:=fPtr pc 1) rfl rfl .plain (Zc at_63_1 rfl (PT.ptr qc)) (CH_ldP (c:=Iz c.Loom) rfl rfl .plain hl2 rfl (CH_pur (c:=ePtr v4 c.Loom 1) rfl rfl .plain (P_indexAddrM (α:=Fv) Tryz.underlying72 Tryz.sizeOf104 rfl hro.toM rfl hr0) (CH_ldO (n:=4) (c:=r0.v) rfl rfl .plain hl3 rfl rfl (CH_pur (c:=y0) rfl rfl .plain (Zk rfl) (CH_do rfl rfl .plain (D_append (g:=g6) (i:=6) Tryz.underlying104 info_9 rfl rfl (hrs.1.ext hx) (hrs.2.ext hx) rfl (ry.ext hx) hy fun g7 w7 v7 hs7 o7 r7 _=>(⟨(hlt.stp hs7 rfl).toW,?_⟩))))))))))))
  refine CH_nil ?_
  have hro7:=(hro.ext hx).stp hs7 rfl
  refine EL_p (ePtr v4 c.Loom 1) (P_indexAddrM (α:=Fv) Tryz.underlying72 Tryz.sizeOf104 rfl hro7.toM rfl hr0) rfl (EL_d0 rfl (D_storeRO (⟨v7,by obtain ⟨_,_,rfl,_⟩:=RV_list r7; rfl⟩:Fv) Tryz.sizeOf104 rfl hro7 hr0 rfl fun w8 hs8 hro8=>?_))
  obtain ⟨g9,hg9,hs9,hpo9⟩:=(((hpo6.ext (rowS 9) hx).stp (rowS 9) hs7 rfl).stp (rowS 9) hs8 rfl).put (rowS 9) (⟨v7,by obtain ⟨_,_,rfl,_⟩:=RV_list r7; rfl⟩:Fv) (x:=y) (j':=6) ⟨o7.stp hs8 rfl,r7.stp hs8⟩ rfl
  refine Zb (blk_n (Zd (Za (EL_in (Iz (w64 (n + (1:Int)))) e35 rfl rfl rfl (Zn (Iz (w64 (n + (1:Int)))) rfl rfl ?_)))))
  exact EL_nt (hrec ((lo.set c.Loom.toNat wv.2.2,ri.set c.Loom.toNat y),w64 (n + 1)) _ _ _ ⟨rfl,e2,e4,e9,e33,e34,rfl,g9,(((hfr.ext hx).stp hs7).stp hs8).stp hs9,hch.trans (hx.ch.trans (hs7.ch.trans (hs8.ch.trans hs9.ch))),(((ml5.ext hx).stp hs7 rfl).stp hs8 rfl).stp hs9 rfl,⟨_,hro8.stp hs9 rfl,hpo9⟩⟩ hk)
 ·refine Zf (E_cf hc rfl (E_exit (thn_e (thn_e (blk_hit (Zd ?_))))))
  obtain rfl:=sinj hk
  obtain ⟨g6,hs6,rr⟩:=nr.pub (fun h=>h.2)
  refine E_sr (Zo e4 rfl (Zg v4 rfl rfl (Zg (Iz 0) rfl rfl (Zg (Iz 0) rfl rfl (EL_nt (E_ret ?_))))))
  exact end3 rfl rfl rfl rfl rfl ⟨_,hfr.stp hs6,_,_,_,rfl,rr,rfl,rfl⟩

def RB (g:Gh) (w:World) (b T:Nat) (x:BookReader) (tl:List Value):Prop:=HBm 1 g w b (.cells (x.text.v :: x.rest.v :: Iz x.line :: tl).toArray T (0,0))
theorem P_iface {P:Program} {e:Env} {x:Operand} {v:Value} {t:TypeId} (ht:∀ w,(Instr.makeInterface t v).run P w=.ok (.iface t v) w) (hx:ev e x=v):Pur P (.makeInterface t x) e (.iface t v):=fun _ _ _ _ _ _=>by
 simp [execOp,hx,ht]
theorem iface_177 (v:Value) (w:World):(Instr.makeInterface 177 v).run Tryz.prog w=.ok (.iface 177 v) w:=by simp [Instr.makeInterface,Sem.run_bind,run_underlying Tryz.underlying177,Result.andThen]
theorem layR_177:layoutOf Tryz.prog 177=some ([Iz 0,Iz 0],[(0,1),(1,1)]):=by kernel_rfl
theorem ext_drewN (g:Gh) (w:World) (k:Nat):Ext g w g (w.drewN k):=⟨⟨rfl,rfl,rfl,Nat.le_refl _,fun _ _=>rfl⟩,fun _ _=>rfl,fun _ _=>rfl⟩
theorem mixedR:Tryz.prog.follows .mixedOrders=true:=by kernel_rfl
theorem P_fa {P:Program} {e:Env} {x:Operand} {b o k:Nat} {s i:Nat} (hf:∀ (a:Addr) w,(Instr.fieldAt s (.pointer (some a)) i).run P w=.ok (.pointer (some (a.add k))) w) (hx:ev e x=.pointer (some ⟨b,o,none⟩)):Pur P (.fieldAddr s x i) e (.pointer (some ⟨b,o + k,none⟩)):=Zc hf hx ⟨_,_,rfl⟩
section
variable {gI:Gh} {wI:World} {b T:Nat} {x:BookReader} {tl:List Value}
def f61 (x:BookReader) (k:Int):Option (PR Unit):=some (.pn x.line k)
theorem en61:Enters Tryz.prog 61:=enters_of Tryz.func61 (by kernel_rfl) rfl
theorem wk61 (hb:RB gI wI b T x tl) {k:Int} {r:PR Unit} (h:f61 x k=some r):FnS (Ext gI wI) Tryz.prog 61 #[.pointer (some ⟨b,0,none⟩),Iz k] wI (okR r fun _ _ _ v=>v=.tuple #[]) (pnR 177 r):=by
 obtain rfl:=sinj h;refine fnS_of_E Tryz.func61 rfl (Nat.le_of_ble_eq_true rfl) ?_;show E _ 11 none _ _ _ _ _;refine Za (Zn (.pointer (some ⟨b,0,none⟩)) rfl rfl (EL_p (.pointer (some ⟨b,0,none⟩)) (P_nilCheck rfl) rfl (EL_p (.pointer (some ⟨b,2,none⟩)) (P_fa at_119_2 rfl) rfl (EL_d0 rfl (D_load1 Tryz.isAgg3 rfl (hb.cell.trans rfl) (Zn (Iz k) rfl rfl (EL_p (.agg #[Iz x.line,Iz k]) (P_build (vs:=[(0,Iz x.line),(1,Iz k)]) [[Iz 0],[Iz 0]] layR_177 rfl rfl (.cons rfl (.cons rfl .nil)) ⟨⟨_,rfl,rfl⟩,⟨⟨_,rfl,rfl⟩,trivial⟩⟩) rfl (EL_p (.iface 177 (.agg #[Iz x.line,Iz k])) (P_iface (iface_177 _) rfl) rfl ?_))))))));exact X_panic .plain rfl (endP rfl (Ext.refl gI wI))
def f64 (x:BookReader) (c:Bool):Option (PR Unit):=bif c then some (.ok ()) else bnd (f61 x 4) fun _=>some (.ok ())
theorem en64:Enters Tryz.prog 64:=enters_of Tryz.func64 (by kernel_rfl) rfl
theorem wk64 (hb:RB gI wI b T x tl) {c:Bool} {r:PR Unit} (h:f64 x c=some r):FnS (Ext gI wI) Tryz.prog 64 #[.pointer (some ⟨b,0,none⟩),.bool c] wI (okR r fun _ _ _ v=>v=.tuple #[]∧c=true) (pnR 177 r):=by
 unfold f64 at h;refine fnS_of_E Tryz.func64 rfl (Nat.le_of_ble_eq_true rfl) ?_;show E _ 8 none _ _ _ _ _;refine E_sr (Zn (.bool c) rfl rfl (EL_p (.bool !c) (P_not rfl) rfl (EL_nt ?_)));rcases Zt h with ⟨hc,h⟩ | ⟨hc,h⟩
 ·refine E_cf (t := !c) (by rw [hc]; rfl) rfl (Zu ?_)
  obtain rfl:=sinj h;exact end0n rfl rfl ⟨gI,Ext.refl _ _,(),rfl,rfl,hc⟩
 ·refine E_ct (t:=!c) (by rw [hc]; rfl) rfl (Za (Zn (.pointer (some ⟨b,0,none⟩)) rfl rfl (X_bnd (vs:=[.pointer (some ⟨b,0,none⟩),Iz 4]) en61 (.cons rfl (.cons rfl .nil)) .plain rfl h (fun a ha=>wk61 hb ha) (fun l e' g' w' hr hs=>endP hr hs) (fun y g' w' v hs hR hx hk=>by cases hx))))

abbrev TabR:=TabE 0 1 4 5
def f103 (s : Str) : Option (Str × Str × Bool) := bif decide (s.b.length < 4294967281) then some (match cutC 10 s.b with
 | none=>(s,⟨[]⟩,false)
 | some p=>(⟨p.1⟩,⟨p.2⟩,true)) else none
theorem en103:Enters Tryz.prog 103:=enters_of Tryz.func103 (by kernel_rfl) rfl
theorem wk103 (hT:TabR gI.m wI) {s:Str} {r:Str × Str × Bool} (h:f103 s=some r):Fn Tryz.prog 103 #[s.v,Str.v ⟨[10]⟩] gI wI (fun _ _ v=>v=.tuple #[r.1.v,r.2.1.v,.bool r.2.2]):=by
 rcases Zt h with ⟨hl,h⟩ | ⟨_,h⟩;rotate_left
 ·cases h
 injection h with h;obtain ⟨_,_,_,hm,n,rfl⟩:=hT.max;refine Calls.mono (Tryz.strings_Cut ⟨⟨s.b⟩⟩ ⟨⟨[10]⟩⟩ n wI (by have:=of_decide_eq_true hl; exact this) hm) ?_;rintro e w' ⟨rfl,k,rfl⟩;refine ⟨_,rfl,gI,ext_drewN gI wI k,?_⟩;rw [cut_one]
 cases hc:cutC 10 s.b with
 | none=>rw [hc] at h; subst h; rfl
 | some p=>rw [hc] at h; subst h; rfl
def f62 (x:BookReader):Option (PR (Str × BookReader)):=
 (f103 x.rest).bind fun c=>bnd (f64 ⟨x.text,x.rest,w64 (x.line + 1)⟩ c.2.2) fun _=>some (.ok (c.1,⟨x.text,c.2.1,w64 (x.line + 1)⟩))
theorem en62:Enters Tryz.prog 62:=enters_of Tryz.func62 (by kernel_rfl) rfl
theorem wk62 (hT:TabR gI.m wI) (hb:RB gI wI b T x tl) {r:PR (Str × BookReader)} (h:f62 x=some r):FnS (Stp 1 gI wI) Tryz.prog 62 #[.pointer (some ⟨b,0,none⟩)] wI (okR r fun y g w v=>v=y.1.v∧RB g w b T y.2 tl) (pnR 177 r):=by
 obtain ⟨c,hc,h⟩:=bsome h;refine fnS_of_E Tryz.func62 rfl (Nat.le_of_ble_eq_true rfl) ?_;show E _ 30 none _ _ _ _ _;refine E_sr (Zg (Str.v ⟨[]⟩) rfl rfl (EL_nt (E_sr (Zn (.pointer (some ⟨b,0,none⟩)) rfl rfl (EL_p (.pointer (some ⟨b,0,none⟩)) (P_nilCheck rfl) rfl (EL_p (.pointer (some ⟨b,2,none⟩)) (P_fa at_119_2 rfl) rfl (EL_d0 rfl (D_load1 Tryz.isAgg3 rfl (hb.cell.trans rfl) (EL_in (Iz (w64 (x.line + 1))) rfl rfl rfl rfl (EL_p (.pointer (some ⟨b,0,none⟩)) (P_nilCheck rfl) rfl (EL_p (.pointer (some ⟨b,2,none⟩)) (P_fa at_119_2 rfl) rfl (EL_d0 rfl (D_store1 (c:=Iz (w64 (x.line + 1))) Tryz.sizeOf3 rfl rfl rfl (by simp) hb fun w1 hs1 hb1 _=>?_)))))))))))));have hb1:RB gI w1 b T ⟨x.text,x.rest,w64 (x.line + 1)⟩ tl:=hb1;refine EL_nt (E_sr (Zn (.pointer (some ⟨b,0,none⟩)) rfl rfl (EL_p (.pointer (some ⟨b,0,none⟩)) (P_nilCheck rfl) rfl (EL_p (.pointer (some ⟨b,1,none⟩)) (P_fa at_119_1 rfl) rfl (EL_d0 rfl (D_load1 Tryz.isAgg9 rfl (hb1.cell.trans rfl) (EL_d0 rfl (Zp (g:=gI) (vs:=[x.rest.v,Str.v ⟨[10]⟩]) en103 (.cons rfl (.cons rfl .nil)) (wk103 (hT.ch hs1.ch) hc) fun g2 w2 v hs2 hv=>?_))))))));subst hv;have hb2:=hb1.ext hs2;refine Zn (.tuple #[c.1.v,c.2.1.v,.bool c.2.2]) rfl rfl (EL_p c.1.v (Zi rfl rfl) rfl (EL_p c.2.1.v (Zi rfl rfl) rfl (EL_p (.bool c.2.2) (Zi rfl rfl) rfl (Zg c.1.v rfl rfl (Zg c.2.1.v rfl rfl (Zg (.bool c.2.2) rfl rfl (EL_nt (E_sr (Zn (.pointer (some ⟨b,0,none⟩)) rfl rfl (Zn (.bool c.2.2) rfl rfl (X_bnd (vs:=[.pointer (some ⟨b,0,none⟩),.bool c.2.2]) en64 (.cons rfl (.cons rfl .nil)) .plain rfl h (fun a ha=>wk64 hb2 ha) (fun l e' g' w' hr hs=>endP hr (hs1.trans (hs2.stp.trans hs.stp))) (fun y g3 w3 v hs3 hR hx hk=>?_))))))))))));obtain ⟨rfl,_⟩:=hR;have hb3:=hb2.ext hs3;obtain rfl:=sinj hk;refine EL_nt (E_sr (Zn (.pointer (some ⟨b,0,none⟩)) rfl rfl (Zn c.2.1.v rfl rfl (EL_p (.pointer (some ⟨b,0,none⟩)) (P_nilCheck rfl) rfl (EL_p (.pointer (some ⟨b,1,none⟩)) (P_fa at_119_1 rfl) rfl (EL_d0 rfl (D_store1 (c:=c.2.1.v) Tryz.sizeOf9 rfl rfl rfl (by simp) hb3 fun w4 hs4 hb4 _=>(EL_nt (E_sr (Zn c.1.v rfl rfl (Zg c.1.v rfl rfl (EL_nt (E_ret ?_)))))))))))));exact end1 rfl rfl rfl ⟨g3,hs1.trans (hs2.stp.trans (hs3.stp.trans hs4)),_,rfl,rfl,hb4⟩

theorem P_nilI {P:Program} {e:Env} {x:Operand} {t t2:TypeId} {v:Value} {b:Bool} (ht:P.underlying t=some (.interface (P.methodsAt t))) (hx:ev e x=v) (hv:(v=.nilIface∧b=true) ∨ ((∃ te pe,v=.iface te pe)∧b=false)):Pur P (.binOp .eql t x (.const .nilIface) t2) e (.bool b):=
 P_bin hx rfl (fun w=>by
  rcases hv with ⟨rfl,_⟩ | ⟨⟨te,pe,rfl⟩,_⟩
  ·show (eqGuard .eql t x (.const .nilIface) .nilIface .nilIface).run P w = _
   rw [eqGuard_nil_constR]; rfl
  ·show (eqGuard .eql t x (.const .nilIface) (.iface te pe) .nilIface).run P w = _
   cases x <;> rfl) (fun w=>by
  rcases hv with ⟨rfl,rfl⟩ | ⟨⟨te,pe,rfl⟩,rfl⟩
  ·exact run_eql_nil_nil _ _ ht
  ·exact run_eql_held_nil _ _ _ _ ht)
theorem itR_ok:ItOk Tryz.prog 116 1:=fun n h0 h1 w hT=>Tryz.strconv_Itoa n h0 h1 w (tabIs_of (by kernel_rfl) hT)
theorem wk116 (hT:TabR gI.m wI) {n:Int} {s:Str} (h:itoaN n=some s):Fn Tryz.prog 116 #[Iz n] gI wI (fun _ _ v=>v=s.v):=by
 unfold itoaN at h;split at h
 case isFalse=>cases h
 rename_i hc;injection h with h;subst h;refine Calls.mono (itR_ok n hc.1 hc.2 wI hT.tab.2.2) ?_;rintro e w' ⟨rfl,q,os,rfl⟩;exact ⟨_,rfl,gI,ext_grow gI wI q os,rfl⟩
theorem en157:Enters Tryz.prog 157:=enters_of Tryz.func157 (by kernel_rfl) rfl
theorem ext_bytes (g:Gh) (w:World) (t:TypeId) (s:ByteArray):Ext g w g (Lib.bytesWorld w t s):=⟨Lib.bytesWorld_below _ _ _,fun _ _=>rfl,fun _ _=>rfl⟩
theorem wk157 (hT : TabR gI.m wI) {s : Str} (hl : s.b.length ≤ 281474976710656) : Fn Tryz.prog 157 #[s.v] gI wI (fun _ _ v => match Lib.atoiAll s.b with
  | .ok n=>v=.tuple #[Iz n,.nilIface]
  | _=>∃ n te pe,v=.tuple #[Iz n,.iface te pe]):=by
 have hsz:(⟨⟨s.b⟩⟩:ByteArray).size=s.b.length:=rfl
 cases hc:Lib.atoiAll s.b with
 | ok n=>
  refine Calls.mono (Tryz.strconv_Atoi_ok ⟨⟨s.b⟩⟩ (by omega) n hc wI) ?_
  rintro e w' ⟨rfl,rfl | ⟨t,rfl⟩⟩
  ·exact ⟨_,rfl,gI,Ext.refl _ _,rfl⟩
  ·exact ⟨_,rfl,gI,ext_bytes _ _ _ _,rfl⟩
 | «syntax»=>
  obtain ⟨_,_,ev',h1,h2⟩:=hT.syn
  refine Calls.mono (Tryz.strconv_Atoi_syntax ⟨⟨s.b⟩⟩ (by omega) hc ev' wI h1 h2) ?_
  rintro e w' ⟨N,rfl,_,_,hb⟩
  exact ⟨_,rfl,gI,⟨hb,fun _ _=>rfl,fun _ _=>rfl⟩,_,_,_,rfl⟩
 | range=>
  obtain ⟨_,_,ev',h1,h2⟩:=hT.rng
  refine Calls.mono (Tryz.strconv_Atoi_range ⟨⟨s.b⟩⟩ (by omega) hc ev' wI h1 h2) ?_
  rintro e w' ⟨N,rfl,_,_,hb⟩
  exact ⟨_,rfl,gI,⟨hb,fun _ _=>rfl,fun _ _=>rfl⟩,_,_,_,rfl⟩
def f124c (s:Str) (v:Int):Option Bool:=bif decide ((s.b.length:Int) ≤ 6) then (bif decide (v ≥ 0) then (itoaN v).bind fun z=>some (z.b == s.b) else some false) else some false
def f124 (x:BookReader) (s:Str):Option (PR Int):=
 bif decide (s.b.length ≤ 281474976710656) then
  match Lib.atoiAll s.b with
  | .ok v=>(f124c s v).bind fun c=>bnd (f64 x c) fun _=>some (.ok v)
  | _=>bnd (f64 x false) fun _=>some (.ok 0)
 else none
theorem en124:Enters Tryz.prog 124:=enters_of Tryz.func124 (by kernel_rfl) rfl
theorem wk124 (hT:TabR gI.m wI) (hb:RB gI wI b T x tl) {s:Str} {r:PR Int} (h:f124 x s=some r):FnS (Ext gI wI) Tryz.prog 124 #[.pointer (some ⟨b,0,none⟩),s.v] wI (okR r fun y _ _ v=>v=Iz y) (pnR 177 r):=by
 rcases Zt h with ⟨hl,h⟩ | ⟨_,h⟩;rotate_left
 ·cases h
 refine fnS_of_E Tryz.func124 rfl (Nat.le_of_ble_eq_true rfl) ?_;show E _ 32 none _ _ _ _ _;refine E_sr (Zg (Iz 0) rfl rfl (EL_nt (E_sr (Zn s.v rfl rfl (EL_d0 rfl (Zp (g:=gI) (vs:=[s.v]) en157 (.cons rfl .nil) (wk157 hT (of_decide_eq_true hl)) fun g1 w1 v hs1 hv=>?_))))));have hb1:=hb.ext hs1;have hT1:=hT.ch hs1.ch
 cases hc:Lib.atoiAll s.b with
 | ok n=>
  rw [hc] at h hv;subst hv;obtain ⟨c,hcc,h⟩:=bsome h;refine Zn (.tuple #[Iz n,.nilIface]) rfl rfl (EL_p (Iz n) (Zi rfl rfl) rfl (EL_p .nilIface (Zi rfl rfl) rfl (Zg (Iz n) rfl rfl (Zg .nilIface rfl rfl (EL_nt (E_sr (Zn (.pointer (some ⟨b,0,none⟩)) rfl rfl (Zn .nilIface rfl rfl (EL_p (.bool true) (P_nilI (by kernel_rfl) rfl (.inl ⟨rfl,rfl⟩)) rfl (Zn (.bool true) rfl rfl (EL_y s.v (Zk rfl) rfl rfl rfl rfl (EL_y (Iz (s.b.length:Int)) (P_lenS Tryz.underlying9 rfl) rfl rfl rfl rfl (EL_y (.bool (decide ((s.b.length:Int) ≤ 6))) (P_int rfl rfl rfl) rfl rfl rfl rfl (EL_p (.bool (decide ((s.b.length:Int) ≤ 6))) (Zl rfl rfl) rfl (Zn (.bool (decide ((s.b.length:Int) ≤ 6))) rfl rfl ?_)))))))))))))));unfold f124c at hcc;rcases Zt hcc with ⟨h6,hcc⟩ | ⟨h6,hcc⟩
  ·refine EL_y (Iz n) (Zk rfl) rfl rfl h6 rfl (EL_y (.bool (decide (n ≥ 0))) (P_int rfl rfl rfl) rfl rfl h6 rfl (EL_p (.bool (decide (n ≥ 0))) (Zl rfl (by rw [h6]; rfl)) rfl (Zn (.bool (decide (n ≥ 0))) rfl rfl ?_)))
   rcases Zt hcc with ⟨h0,hcc⟩ | ⟨h0,hcc⟩
   ·obtain ⟨z, hz, hcc⟩ := bsome hcc
    obtain rfl:=sinj hcc;refine EL_y (Iz n) (Zk rfl) rfl rfl h0 rfl (Ze (.yes2 rfl rfl h0) rfl (Zp (g:=g1) (vs:=[Iz n]) en116 (.cons rfl .nil) (wk116 hT1 hz) fun g2 w2 v hs2 hv=>?_));subst hv;have hb2:=hb1.ext hs2;refine EL_y s.v (Zk rfl) rfl rfl h0 rfl (EL_y (.bool (z.b == s.b)) (P_str rfl rfl rfl) rfl rfl h0 rfl (EL_p (.bool (z.b == s.b)) (Zl rfl (by rw [h0]; rfl)) rfl (X_bnd (vs:=[.pointer (some ⟨b,0,none⟩),.bool (z.b == s.b)]) en64 (.cons rfl (.cons rfl .nil)) .plain rfl h (fun a ha=>wk64 hb2 ha) (fun l e' g' w' hr hs=>endP hr ((hs1.trans hs2).trans hs)) (fun y g3 w3 v hs3 hR hx hk=>?_))));obtain ⟨rfl,hf⟩:=hR;have _h:=hf;obtain rfl:=sinj hk;refine EL_nt (E_sr (Zn (Iz n) rfl rfl (Zg (Iz n) rfl rfl (EL_nt (E_ret ?_)))));exact end1 rfl rfl rfl ⟨g3,(hs1.trans hs2).trans hs3,_,rfl,rfl⟩
   ·obtain rfl := sinj hcc
    have hb2:=hb1;refine EL_s rfl rfl h0 rfl rfl (EL_s rfl rfl h0 rfl rfl (EL_s rfl rfl h0 rfl rfl (EL_s rfl rfl h0 rfl rfl (EL_p (.bool false) (Zl rfl (by rw [h0]; rfl)) rfl (X_bnd (vs:=[.pointer (some ⟨b,0,none⟩),.bool false]) en64 (.cons rfl (.cons rfl .nil)) .plain rfl h (fun a ha=>wk64 hb1 ha) (fun l e' g' w' hr hs=>endP hr (hs1.trans hs)) (fun y g3 w3 v hs3 hR hx hk=>?_))))));obtain ⟨_,hf⟩:=hR
    cases hf
  ·obtain rfl := sinj hcc
   refine EL_s rfl rfl h6 rfl rfl (EL_s rfl rfl h6 rfl rfl (EL_p (.bool false) (Zl rfl (by rw [h6]; rfl)) rfl (Zn (.bool false) rfl rfl (EL_s rfl rfl (c':=false) rfl rfl rfl (EL_s rfl rfl (c':=false) rfl rfl rfl (EL_s rfl rfl (c':=false) rfl rfl rfl (EL_s rfl rfl (c':=false) rfl rfl rfl (EL_p (.bool false) (Zl rfl rfl) rfl (X_bnd (vs:=[.pointer (some ⟨b,0,none⟩),.bool false]) en64 (.cons rfl (.cons rfl .nil)) .plain rfl h (fun a ha=>wk64 hb1 ha) (fun l e' g' w' hr hs=>endP hr (hs1.trans hs)) (fun y g3 w3 v hs3 hR hx hk=>?_))))))))));obtain ⟨_,hf⟩:=hR
   cases hf
 | «syntax»=>
  rw [hc] at h hv;obtain ⟨n,te,pe,rfl⟩:=hv;refine Zn (.tuple #[Iz n,.iface te pe]) rfl rfl (EL_p (Iz n) (Zi rfl rfl) rfl (EL_p (.iface te pe) (Zi rfl rfl) rfl (Zg (Iz n) rfl rfl (Zg (.iface te pe) rfl rfl (EL_nt (E_sr (Zn (.pointer (some ⟨b,0,none⟩)) rfl rfl (Zn (.iface te pe) rfl rfl (EL_p (.bool false) (P_nilI (by kernel_rfl) rfl (.inr ⟨⟨_,_,rfl⟩,rfl⟩)) rfl (Zn (.bool false) rfl rfl (EL_s rfl rfl (c':=false) rfl rfl rfl (EL_s rfl rfl (c':=false) rfl rfl rfl (EL_s rfl rfl (c':=false) rfl rfl rfl (EL_p (.bool false) (Zl rfl rfl) rfl (Zn (.bool false) rfl rfl (EL_s rfl rfl (c':=false) rfl rfl rfl (EL_s rfl rfl (c':=false) rfl rfl rfl ?_)))))))))))))))));refine EL_p (.bool false) (Zl rfl rfl) rfl (Zn (.bool false) rfl rfl (EL_s rfl rfl (c':=false) rfl rfl rfl (EL_s rfl rfl (c':=false) rfl rfl rfl (EL_s rfl rfl (c':=false) rfl rfl rfl (EL_s rfl rfl (c':=false) rfl rfl rfl (EL_p (.bool false) (Zl rfl rfl) rfl (X_bnd (vs:=[.pointer (some ⟨b,0,none⟩),.bool false]) en64 (.cons rfl (.cons rfl .nil)) .plain rfl h (fun a ha=>wk64 hb1 ha) (fun l e' g' w' hr hs=>endP hr (hs1.trans hs)) (fun y g3 w3 v hs3 hR hx hk=>?_))))))));obtain ⟨_,hf⟩:=hR
  cases hf
 | range=>
  rw [hc] at h hv;obtain ⟨n,te,pe,rfl⟩:=hv;refine Zn (.tuple #[Iz n,.iface te pe]) rfl rfl (EL_p (Iz n) (Zi rfl rfl) rfl (EL_p (.iface te pe) (Zi rfl rfl) rfl (Zg (Iz n) rfl rfl (Zg (.iface te pe) rfl rfl (EL_nt (E_sr (Zn (.pointer (some ⟨b,0,none⟩)) rfl rfl (Zn (.iface te pe) rfl rfl (EL_p (.bool false) (P_nilI (by kernel_rfl) rfl (.inr ⟨⟨_,_,rfl⟩,rfl⟩)) rfl (Zn (.bool false) rfl rfl (EL_s rfl rfl (c':=false) rfl rfl rfl (EL_s rfl rfl (c':=false) rfl rfl rfl (EL_s rfl rfl (c':=false) rfl rfl rfl (EL_p (.bool false) (Zl rfl rfl) rfl (Zn (.bool false) rfl rfl (EL_s rfl rfl (c':=false) rfl rfl rfl (EL_s rfl rfl (c':=false) rfl rfl rfl ?_)))))))))))))))));refine EL_p (.bool false) (Zl rfl rfl) rfl (Zn (.bool false) rfl rfl (EL_s rfl rfl (c':=false) rfl rfl rfl (EL_s rfl rfl (c':=false) rfl rfl rfl (EL_s rfl rfl (c':=false) rfl rfl rfl (EL_s rfl rfl (c':=false) rfl rfl rfl (EL_p (.bool false) (Zl rfl rfl) rfl (X_bnd (vs:=[.pointer (some ⟨b,0,none⟩),.bool false]) en64 (.cons rfl (.cons rfl .nil)) .plain rfl h (fun a ha=>wk64 hb1 ha) (fun l e' g' w' hr hs=>endP hr (hs1.trans hs)) (fun y g3 w3 v hs3 hR hx hk=>?_))))))));obtain ⟨_,hf⟩:=hR
  cases hf
def lastN (s:Str):Int:=Lib.lastIndexByte ⟨⟨s.b⟩⟩ 10
theorem en158:Enters Tryz.prog 158:=enters_of Tryz.func158 (by kernel_rfl) rfl
theorem wk158 {s:Str} (hl:s.b.length < 4611686018427387904):Fn Tryz.prog 158 #[s.v,.int .u8 10] gI wI (fun _ _ v=>v=Iz (lastN s)):=by
 refine Calls.mono (Tryz.strings_LastIndexByte ⟨⟨s.b⟩⟩ 10 hl wI) ?_;rintro e w' ⟨rfl,rfl⟩;exact ⟨_,rfl,gI,Ext.refl _ _,rfl⟩
def f126 (x:BookReader):Option Str:=
 (cut x.text.b 0 (w64 ((x.text.b.length:Int) - (x.rest.b.length:Int)))).bind fun s=>(cut s 0 (w64 ((s.length:Int) - (1:Int)))).bind fun u=>
  bif decide (u.length < 4611686018427387904) then (cut s 0 (w64 ((1:Int) + lastN ⟨u⟩))).bind fun z=>some ⟨z⟩ else none
theorem en126:Enters Tryz.prog 126:=enters_of Tryz.func126 (by kernel_rfl) rfl
theorem wk126 (hb:RB gI wI b T x tl) {r:Str} (h:f126 x=some r):Calls Tryz.prog 126 #[.pointer (some ⟨b,0,none⟩)] wI fun e w'=>∃ v,e=.returned v∧∃ g',Ext gI wI g' w'∧v=r.v:=by
 obtain ⟨s,hs,h⟩:=bsome h;obtain ⟨u,hu,h⟩:=bsome h;rcases Zt h with ⟨hl,h⟩ | ⟨_,h⟩;rotate_left
 ·cases h
 obtain ⟨z,hz,h⟩:=bsome h;obtain rfl:=sinj h;refine calls_of_E Tryz.func126 rfl (Nat.le_of_ble_eq_true rfl) ?_;show E _ 29 none _ _ _ _ _;refine E_sr (Zg (Str.v ⟨[]⟩) rfl rfl (EL_nt (Zf ?_)));have l0:=L_ldW (x:=.tmp 6) Tryz.isAgg9 hb (o:=0) (c:=x.text.v) rfl;refine E_drawC (g:=gI) (n:=16) [0,1,2,3,4,5,6,7,8,9,10,11,12,13,14,15] [1] [0,1,2,3,4,5,6,7,8,9,10,11,12,13,14,15] rfl mixedR (by kernel_rfl) fun wc hx hlt=>(CH_pur (c:=.pointer (some ⟨b,0,none⟩)) rfl rfl .plain (Zk rfl) (CH_pur (c:=.pointer (some ⟨b,0,none⟩)) rfl rfl .plain (P_nilCheck rfl) (CH_pur (c:=.pointer (some ⟨b,0,none⟩)) rfl rfl .plain (P_fa at_119_0 rfl) (CH_ldO (n:=1) (c:=x.text.v) rfl rfl .plain (L_ldW Tryz.isAgg9 hb (o:=0) rfl _) rfl rfl (CH_pur (c:=.pointer (some ⟨b,0,none⟩)) rfl rfl .plain (Zk rfl) (CH_pur (c:=.pointer (some ⟨b,0,none⟩)) rfl rfl .plain (P_nilCheck rfl) (CH_pur (c:=.pointer (some ⟨b,0,none⟩)) rfl rfl .plain (P_fa at_119_0 rfl) (CH_ldO (n:=1) (c:=x.text.v) rfl rfl .plain (L_ldW Tryz.isAgg9 hb (o:=0) rfl _) rfl rfl (CH_pur (c:=Iz (x.text.b.length:Int)) rfl rfl .plain (P_lenS Tryz.underlying9 rfl) (CH_pur (c:=.pointer (some ⟨b,0,none⟩)) rfl rfl .plain (Zk rfl) (CH_pur (c:=.pointer (some ⟨b,0,none⟩)) rfl rfl .plain (P_nilCheck rfl) (CH_pur (c:=.pointer (some ⟨b,1,none⟩)) rfl rfl .plain (P_fa at_119_1 rfl) (CH_ldO (n:=1) (c:=x.rest.v) rfl rfl .plain (L_ldW Tryz.isAgg9 hb (o:=1) rfl _) rfl rfl (CH_pur (c:=Iz (x.rest.b.length:Int)) rfl rfl .plain (P_lenS Tryz.underlying9 rfl) (CH_pur (c:=Iz (w64 ((x.text.b.length:Int) - (x.rest.b.length:Int)))) rfl rfl .plain (P_int rfl rfl rfl) (CH_pur (c:=Str.v ⟨s⟩) rfl rfl .plain (P_sliceS Tryz.underlying9 rfl rfl rfl hs) ?_))))))))))))))));refine CH_nil (Zg (Str.v ⟨s⟩) rfl rfl (EL_nt (E_sr (Zn (Str.v ⟨s⟩) rfl rfl (Zn (Str.v ⟨s⟩) rfl rfl (Zn (Str.v ⟨s⟩) rfl rfl (EL_p (Iz (s.length:Int)) (P_lenS (s:=⟨s⟩) Tryz.underlying9 rfl) rfl (EL_in (Iz (w64 ((s.length:Int) - (1:Int)))) rfl rfl rfl rfl (EL_p (Str.v ⟨u⟩) (P_sliceS (s:=⟨s⟩) Tryz.underlying9 rfl rfl rfl hu) rfl (EL_d0 rfl (Zp (g:=gI) (vs:=[Str.v ⟨u⟩,.int .u8 10]) en158 (.cons rfl (.cons rfl .nil)) (wk158 (s:=⟨u⟩) (of_decide_eq_true hl)) fun g2 w2 v hs2 hv=>?_)))))))))));subst hv;refine EL_in (Iz (w64 ((1:Int) + lastN ⟨u⟩))) rfl rfl rfl rfl (EL_p (Str.v ⟨z⟩) (P_sliceS (s:=⟨s⟩) Tryz.underlying9 rfl rfl rfl hz) rfl (Zg (Str.v ⟨z⟩) rfl rfl (EL_nt (E_ret ?_))));exact end1 rfl rfl rfl ⟨g2,hx.trans hs2,rfl⟩
end

structure StpZ (g : Gh) (w : World) (g' : Gh) (w' : World) : Prop where
 os:w'.os=w.os
 tape:w'.tape=w.tape
 output:w'.output=w.output
 ch:Ch g.m w g'.m w'
 block:∀ b,b < w.heap.size→g.o b=0→w'.heap[b]?=w.heap[b]?
 m:∀ b,b < w.heap.size→g.o b=0→g'.m b=g.m b
 o:∀ b,b < w.heap.size→g.o b=0→g'.o b=0
theorem StpZ.trans {g g' g'':Gh} {w w' w'':World} (h:StpZ g w g' w') (k:StpZ g' w' g'' w''):StpZ g w g'' w'':=
  have hlt:∀ b,b < w.heap.size→b < w'.heap.size:=fun b hb=>Nat.lt_of_lt_of_le hb h.ch.size
  ⟨k.os.trans h.os,k.tape.trans h.tape,k.output.trans h.output,h.ch.trans k.ch,
   fun b hb hn=>(k.block b (hlt b hb) (h.o b hb hn)).trans (h.block b hb hn),fun b hb hn=>(k.m b (hlt b hb) (h.o b hb hn)).trans (h.m b hb hn),fun b hb hn=>k.o b (hlt b hb) (h.o b hb hn)⟩
theorem Ext.stpZ {g g':Gh} {w w':World} (h:Ext g w g' w'):StpZ g w g' w':=⟨h.below.os,h.below.tape,h.below.output,h.ch,fun b hb _=>h.below.block b hb,fun b hb _=>h.m b hb,fun b hb hn=>(h.o b hb).trans hn⟩
theorem Stp.stpZ {i:Nat} {g g':Gh} {w w':World} (h:Stp i g w g' w') (hi:Nat.beq i 0=false):StpZ g w g' w':=by
 have hne:∀ b,g.o b=0→g.o b ≠ i:=fun b h0 he=>by rw [h0] at he; subst he; cases hi
 exact ⟨h.os,h.tape,h.output,h.ch,fun b hb hn=>h.block b hb (hne b hn),fun b hb hn=>h.m b hb (hne b hn),fun b hb hn=>(h.o b hb (hne b hn)).trans hn⟩
theorem StpR.stpZ {g g':Gh} {w w':World} (h:StpR g w g' w'):StpZ g w g' w':=
 ⟨h.os,h.tape,h.output,h.ch,fun b hb hn=>h.block b hb (by rw [hn]; rfl),fun b hb hn=>h.m b hb (by rw [hn]; rfl),fun b hb hn=>(h.o b hb (by rw [hn]; rfl)).trans hn⟩
theorem Fr.stpZ {g0 g g':Gh} {w0 w w':World} (h:Fr g0 w0 g w) (k:StpZ g w g' w'):Fr g0 w0 g' w':=
  have hlt:∀ b,b < w0.heap.size→b < w.heap.size:=fun b hb=>Nat.lt_of_lt_of_le hb h.below.size
  ⟨h.below.trans ⟨k.os,k.tape,k.output,k.ch.size,fun b hb=>k.block b (hlt b hb) (h.o b hb)⟩,
   fun b hb=>(k.m b (hlt b hb) (h.o b hb)).trans (h.m b hb),fun b hb=>k.o b (hlt b hb) (h.o b hb)⟩
theorem P_assert177 {e:Env} {x:Operand} {v:Value} (hx:ev e x=.iface 177 v):Pur Tryz.prog (.typeAssert x 20 177 true) e (.tuple #[v,.bool true]):=fun _ _ _ _ _ _=>by
 simp [execOp,hx,Instr.typeAssert,Sem.run_bind,run_underlying Tryz.underlying177,Result.andThen]
theorem rep_fault {m:Nat→Nat} {w:World} (l k:Int):GoT.rep m w (⟨l,k⟩:BookFault) [Iz l,Iz k]:=⟨[_],[_],rfl,rfl,rfl⟩
theorem res3c {P : Program} {fn : Func} {t0 t1 t2 : Tmp} {y0 y1 y2 : TypeId} {α : Type} [GoT α] {i j n : Nat} {d : α} {l k : Int} {g : Gh} {w : World} {p2 p3 p4 : Value} {tmps : Array Value} (hres : fn.results = #[.cell t0 y0, .cell t1 y1, .cell t2 y2]) (b2 : OB i g w y0 d p2) (b3 : OB j g w y1 l p3) (b4 : OB n g w y2 k p4)
  (a0:∀ w,(isAgg y0).run P w=.ok (GoT.agg α) w) (s0:∀ w,(sizeOf y0).run P w=.ok (GoT.k α) w) (a1:∀ w,(isAgg y1).run P w=.ok false w) (s1:∀ w,(sizeOf y1).run P w=.ok 1 w) (a2:∀ w,(isAgg y2).run P w=.ok false w) (s2:∀ w,(sizeOf y2).run P w=.ok 1 w)
  (h0:tmps.getD t0 undef=p2) (h1:tmps.getD t1 undef=p3) (h2:tmps.getD t2 undef=p4):∃ v,RV g.m w d v∧(results fn tmps).run P w=.ok (.tuple #[v,Iz l,Iz k]) w:=by
 obtain ⟨c2,cs2,rfl,_,_,hh2,hr2⟩:=b2
 obtain ⟨c3,cs3,rfl,_,_,hh3,hr3⟩:=b3
 obtain ⟨c4,cs4,rfl,_,_,hh4,hr4⟩:=b4
 have l2:=loadVar_run (P:=P) (b:=c2) (off:=0) a0 s0 hr2 (fun j c hj=>by simpa [World.cell?,hh2] using hj)
 have l3:=loadVar_run (P:=P) (α:=Int) (b:=c3) (off:=0) a1 s1 hr3 (fun j c hj=>by simpa [World.cell?,hh3] using hj)
 have l4:=loadVar_run (P:=P) (α:=Int) (b:=c4) (off:=0) a2 s2 hr4 (fun j c hj=>by simpa [World.cell?,hh4] using hj)
 have e3:cs3.toList=[Iz l]:=hr3
 have e4:cs4.toList=[Iz k]:=hr4
 rw [e3] at l3
 rw [e4] at l4
 refine ⟨_,⟨_,hr2,rfl⟩,?_⟩
 simp only [Array.getD_eq_getD_getElem?] at h0 h1 h2
 have hq:∀ (a:Addr),(asAddr (.pointer (some a))).run P w=.ok a w:=fun _=>rfl
 simp [results,hres,h0,h1,h2,l2,l3,l4,hq]
 exact ⟨rfl,rfl⟩
section
variable {gI:Gh} {wI:World}

/-! ### caught at Design -/
theorem rz_Design:∀ m w,RV m w (⟨0,[]⟩:Design) (.agg #[Iz 0,.slice none 0 0]):=fun m w=>⟨_,(⟨[_],_,rfl,rfl,rep_nil⟩:GoT.rep m w ((0,[]):Int × List Int) _),rfl⟩
theorem en102:∀ args w,(callFunc 102 args).run Tryz.prog w=.ok (.enter 102 args) w:=enters_of Tryz.func102 (by kernel_rfl) rfl
theorem rc102_0 {p2 p3 p4:Value} {w:World}:CallsDIn Fence.wide 0 Tryz.prog 102 #[p2,p3,p4] .returning w fun e u' w'=>u'=.returning∧∃ x,e=.returned x∧w'=w:=by
 refine callsD_rec Tryz.func102 rfl (Nat.le_of_ble_eq_true rfl) rfl .none ?_;show E _ 18 none _ _ _ _ _;refine Zr (E_sr (EL_p (.bool true) (P_nilI (by kernel_rfl) rfl (.inl ⟨rfl,rfl⟩)) rfl (EL_nt (E_ct rfl rfl (Za (Zg .nilIface rfl rfl ?_))))));exact Zb (end0n rfl rfl rfl)
theorem rc102_1 {g : Gh} {w : World} {p2 p3 p4 : Value} {d0 : Design} {l0 k0 l k : Int} {older : List PanicEntry} (h2 : OB 5 g w 24 d0 p2) (h3 : OB 6 g w 3 l0 p3) (h4 : OB 7 g w 27 k0 p4) :
  CallsDIn Fence.wide 0 Tryz.prog 102 #[p2,p3,p4] (.panicking ({ v:=.iface 177 (.agg #[Iz l,Iz k]),recovered:=false } :: older)) w fun e u' w'=>
   u'=.panicking ({ v:=.iface 177 (.agg #[Iz l,Iz k]),recovered:=true } :: older)∧∃ x,e=.returned x∧∃ g',StpZ g w g' w'∧OB 5 g' w' 24 (⟨0,[]⟩:Design) p2∧OB 6 g' w' 3 l p3∧OB 7 g' w' 27 k p4:=by
 refine callsD_rec Tryz.func102 rfl (Nat.le_of_ble_eq_true rfl) rfl (.some _ _) ?_
 show E _ 18 none _ _ _ _ _
 refine Zr (E_sr (EL_p (.bool false) (P_nilI (by kernel_rfl) rfl (.inr ⟨⟨_,_,rfl⟩,rfl⟩)) rfl (EL_nt (E_cf rfl rfl (E_sr (EL_p (.tuple #[.agg #[Iz l,Iz k],.bool true]) (P_assert177 rfl) rfl (EL_p (.bool true) (Zi rfl rfl) rfl (EL_p (.agg #[Iz l,Iz k]) (Zi rfl rfl) rfl (EL_nt (E_ct rfl rfl (E_sr (EL_d0 rfl (D_allocX (g:=g) 9 (⟨0,0⟩:BookFault) Tryz.zeroValue177 (fun m w=>⟨_,rep_fault 0 0,rfl⟩) fun g1 w1 p5 hs1 b5=>(EL_d0 rfl (D_storeO (g:=g1) (a':=(⟨l,k⟩:BookFault)) (v:=.agg #[Iz l,Iz k]) Tryz.sizeOf177 rfl b5 rfl ⟨_,rep_fault l k,rfl⟩ fun g2 w2 hs2 b5=>(EL_nt (E_sr (EL_d0 rfl (D_allocX (g:=g2) 8 (⟨0,[]⟩:Design) Tryz.zeroValue24 rz_Design fun g3 w3 p6 hs3 b6=>(EL_nt ?_))))))))))))))))))))
 have h2:=((h2.ext hs1).stp hs2 rfl).ext hs3
 have h3:=((h3.ext hs1).stp hs2 rfl).ext hs3
 have h4:=((h4.ext hs1).stp hs2 rfl).ext hs3
 have b5:=b5.ext hs3
 refine L_loadO0 (x:=.tmp 5) Tryz.isAgg24 Tryz.sizeOf24 b6 fun v6 r6 hl6=>(L_loadO (x:=.tmp 14) part_BookFault_0.1 Tryz.isAgg3 Tryz.sizeOf3 b5 fun v7 r7 hl7=>(L_loadO (x:=.tmp 16) part_BookFault_1.1 Tryz.isAgg27 Tryz.sizeOf27 b5 fun v8 r8 hl8=>(E_drawC (g:=g3) (n:=8) [0,1,2,3,4] [8,9] [0,1,2,3,4,5,6,7] rfl mixedR (by kernel_rfl) fun wc hx hlt=>(CH_ldO (n:=8) rfl rfl .plain hl6 rfl rfl (CH_pur (c:=fPtr p5 0) rfl rfl .plain (Zc at_177_0 rfl b5.ptr) (CH_ldO (n:=9) rfl rfl .plain hl7 rfl rfl (CH_pur (c:=fPtr p5 1) rfl rfl .plain (Zc at_177_1 rfl b5.ptr) (CH_ldO (n:=9) rfl rfl .plain hl8 rfl rfl (CH_do rfl rfl .plain (D_storeO (g:=g3) (a':=(⟨0,[]⟩:Design)) Tryz.sizeOf24 rfl (h2.ext hx) rfl (r6.ext hx) fun g4 w4 hs4 h2=>?_))))))))))
 have hlt:=hlt.stp hs4
 refine ⟨hlt.toW,?_⟩
 refine CH_do rfl rfl .plain (D_storeO (g:=g4) (a':=l) Tryz.sizeOf3 rfl ((h3.ext hx).stp hs4 rfl) rfl ((r7.ext hx).stp hs4) fun g5 w5 hs5 h3=>?_)
 have hlt:=hlt.stp hs5
 refine ⟨hlt.toW,?_⟩
 refine CH_do rfl rfl .plain (D_storeO (g:=g5) (a':=k) Tryz.sizeOf27 rfl (((h4.ext hx).stp hs4 rfl).stp hs5 rfl) rfl (((r8.ext hx).stp hs4).stp hs5) fun g6 w6 hs6 h4=>?_)
 have hlt:=hlt.stp hs6
 refine ⟨hlt.toW,?_⟩
 refine CH_nil (Zb (blk_n (end0n rfl rfl ⟨g6,?_,(h2.stp hs5 rfl).stp hs6 rfl,h3.stp hs6 rfl,h4⟩)))
 exact hs1.stpZ.trans ((hs2.stpZ rfl).trans (hs3.stpZ.trans (hx.stpZ.trans ((hs4.stpZ rfl).trans ((hs5.stpZ rfl).trans (hs6.stpZ rfl))))))
theorem end59 {d : Design} {l k : Int} {g : Gh} {w : World} {p2 p3 p4 : Value} {tmps : Array Value} {fn : Func} (hfr : Fr gI wI g w) (b2 : OB 5 g w 24 d p2) (b3 : OB 6 g w 3 l p3) (b4 : OB 7 g w 27 k p4) (h0 : tmps.getD 2 undef = p2) (h1 : tmps.getD 3 undef = p3) (h2 : tmps.getD 4 undef = p4) (hres : fn.results = #[.cell 2 24, .cell 3 3, .cell 4 27] := by rfl) :
  LeavesIn Fence.wide 0 Tryz.prog fn tmps (fun e w'=>∃ v,e=.returned v∧∃ g',Fr gI wI g' w'∧∃ y,v=.tuple #[y,Iz l,Iz k]∧RV g'.m w' d y) [] .returning w:=by
 obtain ⟨v,hv,hr⟩:=res3c hres b2 b3 b4 Tryz.isAgg24 Tryz.sizeOf24 Tryz.isAgg3 Tryz.sizeOf3 Tryz.isAgg27 Tryz.sizeOf27 h0 h1 h2
 exact ⟨_,hr,_,rfl,g,hfr,v,rfl,hv⟩
def f59 (a:PR Design):Design × Int × Int:=
 match a with
 | .ok y=>(y,0,0)
 | .pn l k=>(⟨0,[]⟩,l,k)
theorem en59:Enters Tryz.prog 59:=enters_of Tryz.func59 (by kernel_rfl) rfl
theorem wk59 {F : FuncId} {first caps : Array Value} (hent : Enters Tryz.prog F) {a : PR Design} (hc : ∀ g w, Ch gI.m wI g.m w → FnS (Ext g w) Tryz.prog F (first ++ #[] ++ caps) w (okR a fun y g w v => RV g.m w y v) (pnR 177 a)) :
  Fn Tryz.prog 59 #[.func (.func F) first caps] gI wI (fun m w v=>∃ y,v=.tuple #[y,Iz (f59 a).2.1,Iz (f59 a).2.2]∧RV m w (f59 a).1 y):=by
 have key:Calls Tryz.prog 59 #[.func (.func F) first caps] wI fun e w'=>∃ v,e=.returned v∧∃ g',Fr gI wI g' w'∧∃ y,v=.tuple #[y,Iz (f59 a).2.1,Iz (f59 a).2.2]∧RV g'.m w' (f59 a).1 y:=by
  refine calls_of_ED Tryz.func59 rfl (Nat.le_of_ble_eq_true rfl) ?_
  show E _ 8 none _ _ _ _ _
  have hfr:=Fr.start gI wI
  refine E_sr (EL_d0 rfl (D_allocX (g:={ m:=gI.m,o:=fun _=>0 }) 5 (⟨0,[]⟩:Design) Tryz.zeroValue24 rz_Design fun g1 w1 p2 hs1 b2=>(EL_d0 rfl (D_allocX (g:=g1) 6 (0:Int) Tryz.zeroValue3 (fun m w=>Zj.2 rfl) fun g2 w2 p3 hs2 b3=>(EL_d0 rfl (D_allocX (g:=g2) 7 (0:Int) Tryz.zeroValue27 (fun m w=>Zj.2 rfl) fun g3 w3 p4 hs3 b4=>?_))))))
  have hfr:=((hfr.ext hs1).ext hs2).ext hs3
  have b2:=(b2.ext hs2).ext hs3
  have b3:=b3.ext hs3
  refine EL_nt (E_sr (EL_p (.func (.func 102) #[] #[p2,p3,p4]) (P_makeFunc (by simp; exact ⟨rfl,rfl,rfl⟩)) rfl (X_defer (vs:=[]) rfl .nil .plain rfl (EL_nt (E_sr (Zn (.func (.func F) first caps) rfl rfl (X_callv (vs:=[]) rfl hent .nil .plain rfl (Calls.mono (hc g3 w3 (hs1.ch.trans (hs2.ch.trans hs3.ch))) ?_))))))))
  rintro r w4 (⟨v,rfl,g4,hs4,y,rfl,hR⟩ | ⟨c,rfl,⟨l,k,rfl,rfl⟩,g4,hs4⟩)
  ·refine .inl ⟨v, rfl, ?_⟩
   have hfr:=hfr.ext hs4
   refine EL_d0 rfl (D_storeO (g:=g4) (a':=y) Tryz.sizeOf24 rfl (b2.ext hs4) rfl hR fun g5 w5 hs5 b2=>(EL_d0 rfl (D_storeO (g:=g5) (a':=(0:Int)) Tryz.sizeOf3 rfl ((b3.ext hs4).stp hs5 rfl) rfl (Zj.2 rfl) fun g6 w6 hs6 b3=>(EL_d0 rfl (D_storeO (g:=g6) (a':=(0:Int)) Tryz.sizeOf27 rfl (((b4.ext hs4).stp hs5 rfl).stp hs6 rfl) rfl (Zj.2 rfl) fun g7 w7 hs7 b4=>?_)))))
   have hfr:=((hfr.stp hs5).stp hs6).stp hs7
   have b2:=(b2.stp hs6 rfl).stp hs7 rfl
   have b3:=b3.stp hs7 rfl
   refine EL_nt (E_ret fun tmps ht=>(leavesIn_cons (f:=102) (args:=#[p2,p3,p4]) (by simp) (fun h=>by cases h) (en102 _ _) (fun _ _=>trivial) (CallsDIn.mono rc102_0 ?_)))
   rintro e u' w' ⟨rfl,x,rfl,rfl⟩
   exact end59 hfr b2 b3 b4 (ht 2) (ht 3) (ht 4)
  ·refine .inr ⟨_, rfl, fun tmps ht => ?_⟩
   have hfr:=hfr.ext hs4
   refine leavesIn_cons (f:=102) (args:=#[p2,p3,p4]) (by simp) (fun h=>by cases h) (en102 _ _) (fun _ _=>trivial) (CallsDIn.mono (rc102_1 (b2.ext hs4) (b3.ext hs4) (b4.ext hs4)) ?_)
   rintro e u' w' ⟨rfl,x,rfl,g5,hs5,b2,b3,b4⟩
   exact end59 (hfr.stpZ hs5) b2 b3 b4 (ht 2) (ht 3) (ht 4)
 refine Calls.mono key ?_
 rintro r w' ⟨v,rfl,g',hfr,hr⟩
 exact ⟨v,rfl,_,hfr.fin,hr⟩

/-! ### caught at BookMill -/
theorem rz_BookMill:∀ m w,RV m w (⟨[],[]⟩:BookMill) (.agg #[.slice none 0 0,.slice none 0 0]):=fun m w=>⟨_,(⟨[_],_,rfl,rep_nil,rep_nil⟩:GoT.rep m w (([],[]):List BookTie × List BookChain) _),rfl⟩
theorem en120:∀ args w,(callFunc 120 args).run Tryz.prog w=.ok (.enter 120 args) w:=enters_of Tryz.func120 (by kernel_rfl) rfl
theorem rc120_0 {p2 p3 p4:Value} {w:World}:CallsDIn Fence.wide 0 Tryz.prog 120 #[p2,p3,p4] .returning w fun e u' w'=>u'=.returning∧∃ x,e=.returned x∧w'=w:=by
 refine callsD_rec Tryz.func120 rfl (Nat.le_of_ble_eq_true rfl) rfl .none ?_;show E _ 18 none _ _ _ _ _;refine Zr (E_sr (EL_p (.bool true) (P_nilI (by kernel_rfl) rfl (.inl ⟨rfl,rfl⟩)) rfl (EL_nt (E_ct rfl rfl (Za (Zg .nilIface rfl rfl ?_))))));exact Zb (end0n rfl rfl rfl)
theorem rc120_1 {g : Gh} {w : World} {p2 p3 p4 : Value} {d0 : BookMill} {l0 k0 l k : Int} {older : List PanicEntry} (h2 : OB 5 g w 39 d0 p2) (h3 : OB 6 g w 3 l0 p3) (h4 : OB 7 g w 27 k0 p4) :
  CallsDIn Fence.wide 0 Tryz.prog 120 #[p2,p3,p4] (.panicking ({ v:=.iface 177 (.agg #[Iz l,Iz k]),recovered:=false } :: older)) w fun e u' w'=>
   u'=.panicking ({ v:=.iface 177 (.agg #[Iz l,Iz k]),recovered:=true } :: older)∧∃ x,e=.returned x∧∃ g',StpZ g w g' w'∧OB 5 g' w' 39 (⟨[],[]⟩:BookMill) p2∧OB 6 g' w' 3 l p3∧OB 7 g' w' 27 k p4:=by
 refine callsD_rec Tryz.func120 rfl (Nat.le_of_ble_eq_true rfl) rfl (.some _ _) ?_
 show E _ 18 none _ _ _ _ _
 refine Zr (E_sr (EL_p (.bool false) (P_nilI (by kernel_rfl) rfl (.inr ⟨⟨_,_,rfl⟩,rfl⟩)) rfl (EL_nt (E_cf rfl rfl (E_sr (EL_p (.tuple #[.agg #[Iz l,Iz k],.bool true]) (P_assert177 rfl) rfl (EL_p (.bool true) (Zi rfl rfl) rfl (EL_p (.agg #[Iz l,Iz k]) (Zi rfl rfl) rfl (EL_nt (E_ct rfl rfl (E_sr (EL_d0 rfl (D_allocX (g:=g) 9 (⟨0,0⟩:BookFault) Tryz.zeroValue177 (fun m w=>⟨_,rep_fault 0 0,rfl⟩) fun g1 w1 p5 hs1 b5=>(EL_d0 rfl (D_storeO (g:=g1) (a':=(⟨l,k⟩:BookFault)) (v:=.agg #[Iz l,Iz k]) Tryz.sizeOf177 rfl b5 rfl ⟨_,rep_fault l k,rfl⟩ fun g2 w2 hs2 b5=>(EL_nt (E_sr (EL_d0 rfl (D_allocX (g:=g2) 8 (⟨[],[]⟩:BookMill) Tryz.zeroValue39 rz_BookMill fun g3 w3 p6 hs3 b6=>(EL_nt ?_))))))))))))))))))))
 have h2:=((h2.ext hs1).stp hs2 rfl).ext hs3
 have h3:=((h3.ext hs1).stp hs2 rfl).ext hs3
 have h4:=((h4.ext hs1).stp hs2 rfl).ext hs3
 have b5:=b5.ext hs3
 refine L_loadO0 (x:=.tmp 5) Tryz.isAgg39 Tryz.sizeOf39 b6 fun v6 r6 hl6=>(L_loadO (x:=.tmp 14) part_BookFault_0.1 Tryz.isAgg3 Tryz.sizeOf3 b5 fun v7 r7 hl7=>(L_loadO (x:=.tmp 16) part_BookFault_1.1 Tryz.isAgg27 Tryz.sizeOf27 b5 fun v8 r8 hl8=>(E_drawC (g:=g3) (n:=8) [0,1,2,3,4] [8,9] [0,1,2,3,4,5,6,7] rfl mixedR (by kernel_rfl) fun wc hx hlt=>(CH_ldO (n:=8) rfl rfl .plain hl6 rfl rfl (CH_pur (c:=fPtr p5 0) rfl rfl .plain (Zc at_177_0 rfl b5.ptr) (CH_ldO (n:=9) rfl rfl .plain hl7 rfl rfl (CH_pur (c:=fPtr p5 1) rfl rfl .plain (Zc at_177_1 rfl b5.ptr) (CH_ldO (n:=9) rfl rfl .plain hl8 rfl rfl (CH_do rfl rfl .plain (D_storeO (g:=g3) (a':=(⟨[],[]⟩:BookMill)) Tryz.sizeOf39 rfl (h2.ext hx) rfl (r6.ext hx) fun g4 w4 hs4 h2=>?_))))))))))
 have hlt:=hlt.stp hs4
 refine ⟨hlt.toW,?_⟩
 refine CH_do rfl rfl .plain (D_storeO (g:=g4) (a':=l) Tryz.sizeOf3 rfl ((h3.ext hx).stp hs4 rfl) rfl ((r7.ext hx).stp hs4) fun g5 w5 hs5 h3=>?_)
 have hlt:=hlt.stp hs5
 refine ⟨hlt.toW,?_⟩
 refine CH_do rfl rfl .plain (D_storeO (g:=g5) (a':=k) Tryz.sizeOf27 rfl (((h4.ext hx).stp hs4 rfl).stp hs5 rfl) rfl (((r8.ext hx).stp hs4).stp hs5) fun g6 w6 hs6 h4=>?_)
 have hlt:=hlt.stp hs6
 refine ⟨hlt.toW,?_⟩
 refine CH_nil (Zb (blk_n (end0n rfl rfl ⟨g6,?_,(h2.stp hs5 rfl).stp hs6 rfl,h3.stp hs6 rfl,h4⟩)))
 exact hs1.stpZ.trans ((hs2.stpZ rfl).trans (hs3.stpZ.trans (hx.stpZ.trans ((hs4.stpZ rfl).trans ((hs5.stpZ rfl).trans (hs6.stpZ rfl))))))
theorem end76 {d : BookMill} {l k : Int} {g : Gh} {w : World} {p2 p3 p4 : Value} {tmps : Array Value} {fn : Func} (hfr : Fr gI wI g w) (b2 : OB 5 g w 39 d p2) (b3 : OB 6 g w 3 l p3) (b4 : OB 7 g w 27 k p4) (h0 : tmps.getD 2 undef = p2) (h1 : tmps.getD 3 undef = p3) (h2 : tmps.getD 4 undef = p4) (hres : fn.results = #[.cell 2 39, .cell 3 3, .cell 4 27] := by rfl) :
  LeavesIn Fence.wide 0 Tryz.prog fn tmps (fun e w'=>∃ v,e=.returned v∧∃ g',Fr gI wI g' w'∧∃ y,v=.tuple #[y,Iz l,Iz k]∧RV g'.m w' d y) [] .returning w:=by
 obtain ⟨v,hv,hr⟩:=res3c hres b2 b3 b4 Tryz.isAgg39 Tryz.sizeOf39 Tryz.isAgg3 Tryz.sizeOf3 Tryz.isAgg27 Tryz.sizeOf27 h0 h1 h2
 exact ⟨_,hr,_,rfl,g,hfr,v,rfl,hv⟩
def f76 (a:PR BookMill):BookMill × Int × Int:=
 match a with
 | .ok y=>(y,0,0)
 | .pn l k=>(⟨[],[]⟩,l,k)
theorem en76:Enters Tryz.prog 76:=enters_of Tryz.func76 (by kernel_rfl) rfl
theorem wk76 {F : FuncId} {first caps : Array Value} (hent : Enters Tryz.prog F) {a : PR BookMill} (hc : ∀ g w, Ch gI.m wI g.m w → FnS (Ext g w) Tryz.prog F (first ++ #[] ++ caps) w (okR a fun y g w v => RV g.m w y v) (pnR 177 a)) :
  Fn Tryz.prog 76 #[.func (.func F) first caps] gI wI (fun m w v=>∃ y,v=.tuple #[y,Iz (f76 a).2.1,Iz (f76 a).2.2]∧RV m w (f76 a).1 y):=by
 have key:Calls Tryz.prog 76 #[.func (.func F) first caps] wI fun e w'=>∃ v,e=.returned v∧∃ g',Fr gI wI g' w'∧∃ y,v=.tuple #[y,Iz (f76 a).2.1,Iz (f76 a).2.2]∧RV g'.m w' (f76 a).1 y:=by
  refine calls_of_ED Tryz.func76 rfl (Nat.le_of_ble_eq_true rfl) ?_
  show E _ 8 none _ _ _ _ _
  have hfr:=Fr.start gI wI
  refine E_sr (EL_d0 rfl (D_allocX (g:={ m:=gI.m,o:=fun _=>0 }) 5 (⟨[],[]⟩:BookMill) Tryz.zeroValue39 rz_BookMill fun g1 w1 p2 hs1 b2=>(EL_d0 rfl (D_allocX (g:=g1) 6 (0:Int) Tryz.zeroValue3 (fun m w=>Zj.2 rfl) fun g2 w2 p3 hs2 b3=>(EL_d0 rfl (D_allocX (g:=g2) 7 (0:Int) Tryz.zeroValue27 (fun m w=>Zj.2 rfl) fun g3 w3 p4 hs3 b4=>?_))))))
  have hfr:=((hfr.ext hs1).ext hs2).ext hs3
  have b2:=(b2.ext hs2).ext hs3
  have b3:=b3.ext hs3
  refine EL_nt (E_sr (EL_p (.func (.func 120) #[] #[p2,p3,p4]) (P_makeFunc (by simp; exact ⟨rfl,rfl,rfl⟩)) rfl (X_defer (vs:=[]) rfl .nil .plain rfl (EL_nt (E_sr (Zn (.func (.func F) first caps) rfl rfl (X_callv (vs:=[]) rfl hent .nil .plain rfl (Calls.mono (hc g3 w3 (hs1.ch.trans (hs2.ch.trans hs3.ch))) ?_))))))))
  rintro r w4 (⟨v,rfl,g4,hs4,y,rfl,hR⟩ | ⟨c,rfl,⟨l,k,rfl,rfl⟩,g4,hs4⟩)
  ·refine .inl ⟨v, rfl, ?_⟩
   have hfr:=hfr.ext hs4
   refine EL_d0 rfl (D_storeO (g:=g4) (a':=y) Tryz.sizeOf39 rfl (b2.ext hs4) rfl hR fun g5 w5 hs5 b2=>(EL_d0 rfl (D_storeO (g:=g5) (a':=(0:Int)) Tryz.sizeOf3 rfl ((b3.ext hs4).stp hs5 rfl) rfl (Zj.2 rfl) fun g6 w6 hs6 b3=>(EL_d0 rfl (D_storeO (g:=g6) (a':=(0:Int)) Tryz.sizeOf27 rfl (((b4.ext hs4).stp hs5 rfl).stp hs6 rfl) rfl (Zj.2 rfl) fun g7 w7 hs7 b4=>?_)))))
   have hfr:=((hfr.stp hs5).stp hs6).stp hs7
   have b2:=(b2.stp hs6 rfl).stp hs7 rfl
   have b3:=b3.stp hs7 rfl
   refine EL_nt (E_ret fun tmps ht=>(leavesIn_cons (f:=120) (args:=#[p2,p3,p4]) (by simp) (fun h=>by cases h) (en120 _ _) (fun _ _=>trivial) (CallsDIn.mono rc120_0 ?_)))
   rintro e u' w' ⟨rfl,x,rfl,rfl⟩
   exact end76 hfr b2 b3 b4 (ht 2) (ht 3) (ht 4)
  ·refine .inr ⟨_, rfl, fun tmps ht => ?_⟩
   have hfr:=hfr.ext hs4
   refine leavesIn_cons (f:=120) (args:=#[p2,p3,p4]) (by simp) (fun h=>by cases h) (en120 _ _) (fun _ _=>trivial) (CallsDIn.mono (rc120_1 (b2.ext hs4) (b3.ext hs4) (b4.ext hs4)) ?_)
   rintro e u' w' ⟨rfl,x,rfl,g5,hs5,b2,b3,b4⟩
   exact end76 (hfr.stpZ hs5) b2 b3 b4 (ht 2) (ht 3) (ht 4)
 refine Calls.mono key ?_
 rintro r w' ⟨v,rfl,g',hfr,hr⟩
 exact ⟨v,rfl,_,hfr.fin,hr⟩
end

section
variable {gI:Gh} {wI:World}
def f60b (k:BookReader × Design→Option (PR Design)) (z:BookReader × Design):Option (PR Design):=
 bif (bif z.1.line == (0 : Int) then true else !(z.1.rest.b == [])) then
  bif z.1.line == (60:Int) then bnd (f61 ⟨z.1.text,z.1.rest,w64 (z.1.line + 1)⟩ 5) fun _=>none
  else bnd (f62 z.1) fun q=>(f63 q.1).bind fun rw=>
   bnd (f64 q.2 (bif rw.2 then ((q.1.b.length:Int) == (bif q.2.line == (1:Int) then (q.1.b.length:Int) else z.2.Hooks)) else false)) fun _=>
   (apnd 8 z.2.Rows [rw.1]).bind fun rows=>k (q.2,⟨bif q.2.line == (1:Int) then (q.1.b.length:Int) else z.2.Hooks,rows⟩)
 else some (.ok z.2)
def f60 (s:Str):Option (PR Design):=lp (σ:=BookReader × Design) f60b big (⟨s,s,0⟩,⟨0,[]⟩)
theorem en60:Enters Tryz.prog 60:=enters_of Tryz.func60 (by kernel_rfl) rfl
theorem layR_119:layoutOf Tryz.prog 119=some ([Str.v ⟨[]⟩,Str.v ⟨[]⟩,Iz 0],[(0,1),(1,1),(2,1)]):=by kernel_rfl
theorem rep_reader {m:Nat→Nat} {w:World} (x:BookReader):GoT.rep m w x [x.text.v,x.rest.v,Iz x.line]:=⟨[_],_,rfl,rfl,[_],[_],rfl,rfl,rfl⟩
theorem hbm_of {α:Type} [GoT α] {i:Nat} {g:Gh} {w:World} {t:TypeId} {a:α} {p:Value} {cs:Array Value} (b:OB i g w t a p) (c:CB i g w t p cs):∃ bk,p=.pointer (some ⟨bk,0,none⟩)∧HBm i g w bk (.cells cs t (0,0)):=by
 obtain ⟨bk,cs',rfl,ho,hm,hh,_⟩:=b;obtain ⟨bk2,hp,_,hc2⟩:=c;injection hp with hp; injection hp with hp; injection hp with hp _;subst hp;exact ⟨_,rfl,ho,hm,hc2⟩
theorem infoR_3:(Tryz.prog.info? 3).map (fun i=>(i.zero,i.size,i.bytes))=some (some (Iz 0),1,8):=by kernel_rfl
theorem ob_design {i:Nat} {g:Gh} {w:World} {bd:Nat} {d:Design} {v:Value} (hd:HBm i g w bd (.cells #[Iz d.Hooks,v] 24 (0,0))) (r:RV g.m w d.Rows v):OB i g w 24 d (.pointer (some ⟨bd,0,none⟩)):=by
 obtain ⟨cs,⟨a,c,rfl,hc⟩,rfl⟩:=r;exact ⟨bd,_,rfl,hd.1,hd.2.1,hd.2.2,[_],[_],rfl,rfl,a,c,rfl,hc⟩
theorem end1c {P : Program} {fn : Func} {t0 : Tmp} {y0 : TypeId} {α : Type} [GoT α] {i : Nat} {d : α} {e : Env} {ds : List Deferred} {g : Gh} {w : World} {p : Value} {R : Value → World → Prop} (hres : fn.results = #[.cell t0 y0]) (hd : ds = []) (b : OB i g w y0 d p)
  (a0:∀ w,(isAgg y0).run P w=.ok (GoT.agg α) w) (s0:∀ w,(sizeOf y0).run P w=.ok (GoT.k α) w) (h0:e t0=p) (h:∀ v,RV g.m w d v→R v w):atEnd P fn R .ret e ds w:=by
 refine ⟨hd,fun tmps ht=>?_⟩
 obtain ⟨c2,cs2,rfl,_,_,hh2,hr2⟩:=b
 have l2:=loadVar_run (P:=P) (b:=c2) (off:=0) a0 s0 hr2 (fun j c hj=>by simpa [World.cell?,hh2] using hj)
 have h0:=(ht t0).trans h0
 simp only [Array.getD_eq_getD_getElem?] at h0
 have hq:∀ (a:Addr),(asAddr (.pointer (some a))).run P w=.ok a w:=fun _=>rfl
 refine ⟨toV (GoT.agg α) cs2.toList,?_,h _ ⟨_,hr2,rfl⟩⟩
 simp [results,hres,h0,l2,hq]
theorem wk60 (hT:TabR gI.m wI) {s:Str} {p:Value} (hp:PT gI.m wI s p) {r:PR Design} (h:f60 s=some r):FnS (Ext gI wI) Tryz.prog 60 #[p] wI (okR r fun y g w v=>RV g.m w y v) (pnR 177 r):=by
 have key:FnS (Fr gI wI) Tryz.prog 60 #[p] wI (okR r fun y g w v=>RV g.m w y v) (pnR 177 r):=by
  refine fnS_of_E Tryz.func60 rfl (Nat.le_of_ble_eq_true rfl) ?_;show E _ 68 none _ _ _ _ _;have hfr:=Fr.start gI wI;refine E_sr (EL_d0 rfl (D_allocOc (g:={ m:=gI.m,o:=fun _=>0 }) 5 (⟨0,[]⟩:Design) Tryz.zeroValue24 rz_Design fun g1 w1 p1 hs1 b1 c1=>?_));have hfr:=hfr.stp hs1;obtain ⟨bd,rfl,hd⟩:=hbm_of b1 c1;have hp1:=hp.ch hs1.ch;refine EL_nt (E_sr (EL_d0 rfl (D_load Tryz.isAgg9 Tryz.sizeOf9 rfl hp1 fun v rv=>?_)));obtain rfl:=RV_str.1 rv;refine EL_d0 rfl (D_load Tryz.isAgg9 Tryz.sizeOf9 rfl hp1 fun v rv=>?_);obtain rfl:=RV_str.1 rv;refine EL_p (.agg #[s.v,s.v,Iz 0]) (P_build (vs:=[(0,s.v),(1,s.v)]) [[Str.v ⟨[]⟩],[Str.v ⟨[]⟩],[Iz 0]] layR_119 rfl rfl (.cons rfl (.cons rfl .nil)) ⟨⟨_,rfl,rfl⟩,⟨⟨_,rfl,rfl⟩,trivial⟩⟩) rfl (EL_d0 rfl (D_boxOc (g:=g1) 1 (a:=(⟨s,s,0⟩:BookReader)) (v:=.agg #[s.v,s.v,Iz 0]) rfl ⟨_,rep_reader ⟨s,s,0⟩,rfl⟩ fun g2 w2 p2 hs2 b2 c2=>?_));have hfr:=hfr.stp hs2;obtain ⟨br,rfl,hb⟩:=hbm_of b2 c2;have hb:RB g2 w2 br 119 ⟨s,s,0⟩ []:=hb;have hd:=hd.stp hs2 rfl;refine Zg (.pointer (some ⟨br,0,none⟩)) rfl rfl (EL_nt (Zf (Zr ?_)));unfold f60 at h;refine E_lpD h (fun (z:BookReader × Design) e ds w'=>ds=[]∧e 1=.pointer (some ⟨bd,0,none⟩)∧e 2=.pointer (some ⟨br,0,none⟩)∧∃ g vR,Fr gI wI g w'∧RB g w' br 119 z.1 []∧HBm 5 g w' bd (.cells #[Iz z.2.Hooks,vR] 24 (0,0))∧RV g.m w' z.2.Rows vR∧OS 6 g w' 3 z.2.Rows vR) ⟨rfl,rfl,rfl,g2,.slice none 0 0,hfr,hb,hd,RV_nil,OS.nil⟩ (fun X rec hX=>?_);rintro ⟨x,d⟩ e ds w3 ⟨rfl,e1,e2,g3,vR,hfr,hb,hd,rR,oR⟩ hk;have hT3:=hT.ch hfr.ch;unfold f60b at hk;refine Zf (E_cut (fun e ds w'=>ds=[]∧e 1=.pointer (some ⟨bd,0,none⟩)∧e 2=.pointer (some ⟨br,0,none⟩)∧e 21=.bool (bif x.line == (0:Int) then true else !(x.rest.b == []))∧w'=w3) (Za ?_) ?_)
  ·refine Zo e2 rfl (EL_p (.pointer (some ⟨br, 0, none⟩)) (P_nilCheck rfl) rfl (EL_p (.pointer (some ⟨br, 2, none⟩)) (P_fa at_119_2 rfl) rfl (EL_d0 rfl (D_load1 Tryz.isAgg3 rfl (hb.cell.trans rfl) (EL_in (.bool (x.line == (0 : Int))) rfl rfl rfl rfl (Zn (.bool (x.line == (0 : Int))) rfl rfl ?_))))))
   cases h0:(x.line == (0:Int)) with
   | true=>
    refine EL_s rfl rfl (c':=true) rfl rfl rfl (EL_s rfl rfl (c':=true) rfl rfl rfl (EL_s rfl rfl (c':=true) rfl rfl rfl (EL_s rfl rfl (c':=true) rfl rfl rfl (EL_s rfl rfl (c':=true) rfl rfl rfl (EL_p (.bool true) (Zl rfl rfl) rfl ?_)))));exact Zb ⟨rfl,e1,e2,rfl,rfl⟩
   | false=>
    refine EL_y (.pointer (some ⟨br,0,none⟩)) (Zk e2) rfl rfl rfl rfl (EL_y (.pointer (some ⟨br,0,none⟩)) (P_nilCheck rfl) rfl rfl rfl rfl (EL_y (.pointer (some ⟨br,1,none⟩)) (P_fa at_119_1 rfl) rfl rfl rfl rfl (Ze (.yes2 rfl rfl rfl) rfl (D_load1 Tryz.isAgg9 rfl (hb.cell.trans rfl) (EL_y (.bool (!(x.rest.b == []))) (P_str (a:=x.rest) (b:=⟨[]⟩) rfl rfl rfl) rfl rfl rfl rfl (EL_p (.bool (!(x.rest.b == []))) (Zl rfl rfl) rfl ?_))))));exact Zb ⟨rfl,e1,e2,rfl,rfl⟩
  rintro e ds w' ⟨rfl,e1,e2,e21,rfl⟩;rcases Zt hk with ⟨hc,hk⟩ | ⟨hc,hk⟩;rotate_left
  ·refine E_cf hc e21 (E_exit (thn_e (thn_e (blk_hit ?_))))
   obtain rfl:=sinj hk;have ob:=ob_design hd rR;refine E_sr (EL_d0 rfl (D_loadO Tryz.isAgg24 Tryz.sizeOf24 e1 ob fun v rv=>(EL_d0 rfl (D_storeO (g:=g3) (a':=d) Tryz.sizeOf24 e1 ob rfl rv fun g4 w4 hs4 ob=>(EL_nt (E_ret ?_))))));exact end1c rfl rfl ob Tryz.isAgg24 Tryz.sizeOf24 e1 fun v rv=>⟨g4,hfr.stp hs4,d,rfl,rv⟩
  refine E_ct hc e21 (Zu (Zd (Zr (Zf (E_sr (Zo e2 rfl (EL_p (.pointer (some ⟨br,0,none⟩)) (P_nilCheck rfl) rfl (EL_p (.pointer (some ⟨br,2,none⟩)) (P_fa at_119_2 rfl) rfl (EL_d0 rfl (D_load1 Tryz.isAgg3 rfl (hb.cell.trans rfl) (EL_in (.bool (x.line == (60:Int))) rfl rfl rfl rfl (EL_nt ?_))))))))))));rcases Zt hk with ⟨h6,hk⟩ | ⟨h6,hk⟩
  ·refine E_ct h6 rfl (E_sr (Zo e2 rfl (EL_p (.pointer (some ⟨br, 0, none⟩)) (P_nilCheck rfl) rfl (EL_p (.pointer (some ⟨br, 2, none⟩)) (P_fa at_119_2 rfl) rfl (EL_d0 rfl (D_load1 Tryz.isAgg3 rfl (hb.cell.trans rfl) (EL_in (Iz (w64 (x.line + 1))) rfl rfl rfl rfl (EL_p (.pointer (some ⟨br, 0, none⟩)) (P_nilCheck rfl) rfl (EL_p (.pointer (some ⟨br, 2, none⟩)) (P_fa at_119_2 rfl) rfl (EL_d0 rfl (D_store1 (c := Iz (w64 (x.line + 1))) Tryz.sizeOf3 rfl rfl rfl (by simp) hb fun w4 hs4 hb4 _ => ?_)))))))))))
   have hb4:RB g3 w4 br 119 ⟨x.text,x.rest,w64 (x.line + 1)⟩ []:=hb4;refine EL_nt (Za (Zo e2 rfl (X_bnd (vs:=[.pointer (some ⟨br,0,none⟩),Iz 5]) en61 (.cons rfl (.cons rfl .nil)) .plain rfl hk (fun a ha=>wk61 hb4 ha) (fun l e' g' w' hr hs=>endP hr ((hfr.stp hs4).ext hs)) (fun y g' w' v hs hR hx hk=>by cases hx))))
  refine E_cf h6 rfl (Zu (Zd (E_sr (Zo e2 rfl (X_bnd (vs:=[.pointer (some ⟨br,0,none⟩)]) en62 (.cons rfl .nil) .plain rfl hk (fun a ha=>wk62 hT3 hb ha) (fun l e' g' w' hr hs=>endP hr (hfr.stp hs)) (fun q g4 w4 v hs4 hR hx hk=>?_))))));obtain ⟨rfl,hb⟩:=hR;have hfr:=hfr.stp hs4;have hd:=hd.stp hs4 rfl;have rR:=rR.stp hs4;have oR:=oR.stp hs4 rfl;obtain ⟨rw1,hrw,hk⟩:=bsome hk;refine Zg q.1.v rfl rfl (EL_nt (E_sr (Zn q.1.v rfl rfl (EL_d0 rfl (Zp (g:=g4) (vs:=[q.1.v]) en63 (.cons rfl .nil) (wk63 hrw) fun g5 w5 v hs5 hv=>?_)))));obtain ⟨_,_,rfl,rfl,rfl⟩:=hv;have hfr:=hfr.ext hs5;have hd:=hd.ext hs5;have rR:=rR.ext hs5;have oR:=oR.ext hs5;have hb:=hb.ext hs5;refine Zn (.tuple #[Iz rw1.1,.bool rw1.2]) rfl rfl (EL_p (Iz rw1.1) (Zi rfl rfl) rfl (EL_p (.bool rw1.2) (Zi rfl rfl) rfl (Zg (Iz rw1.1) rfl rfl (Zg (.bool rw1.2) rfl rfl (EL_nt (E_joinD (fun e ds w'=>ds=[]∧e 1=.pointer (some ⟨bd,0,none⟩)∧e 2=.pointer (some ⟨br,0,none⟩)∧e 3=q.1.v∧e 4=Iz rw1.1∧e 5=.bool rw1.2∧Fr gI wI g5 w'∧Stp 5 g5 w5 g5 w'∧HBm 5 g5 w' bd (.cells #[Iz (bif q.2.line == (1:Int) then (q.1.b.length:Int) else d.Hooks),vR] 24 (0,0))) (fun Q' hQ'=>?_) ?_))))))
  ·refine E_sr (Zo e2 rfl (EL_p (.pointer (some ⟨br, 0, none⟩)) (P_nilCheck rfl) rfl (EL_p (.pointer (some ⟨br, 2, none⟩)) (P_fa at_119_2 rfl) rfl (EL_d0 rfl (D_load1 Tryz.isAgg3 rfl (hb.cell.trans rfl) (EL_in (.bool (q.2.line == (1 : Int))) rfl rfl rfl rfl (EL_nt ?_)))))))
   cases h1:(q.2.line == (1:Int)) with
   | true=>
    refine E_ct rfl rfl (Za (Zn q.1.v rfl rfl (EL_p (Iz (q.1.b.length:Int)) (P_lenS Tryz.underlying9 rfl) rfl (EL_p (.pointer (some ⟨bd,0,none⟩)) (P_fa at_24_0 e1) rfl (EL_d0 rfl (D_store1 (c:=Iz (q.1.b.length:Int)) Tryz.sizeOf3 rfl rfl rfl (by simp) hd fun w6 hs6 hd6 _=>?_))))));exact Zb (hQ' _ _ _ ⟨rfl,e1,e2,rfl,rfl,rfl,hfr.stp hs6,hs6,by rw [h1]; exact hd6⟩)
   | false=>
    refine E_cf rfl rfl (Zu ?_);exact hQ' _ _ _ ⟨rfl,e1,e2,rfl,rfl,rfl,hfr,(Ext.refl _ _).stp,by rw [h1]; exact hd⟩
  rintro e ds w6 ⟨rfl,e1,e2,e3,e4,e5,hfr,hs6,hd⟩;have hb:=hb.stp hs6 rfl;have rR:=rR.stp hs6;have oR:=oR.stp hs6 rfl;generalize (bif q.2.line == (1:Int) then (q.1.b.length:Int) else d.Hooks)=hh at hd hk;refine E_cut (fun e ds w'=>ds=[]∧e 1=.pointer (some ⟨bd,0,none⟩)∧e 2=.pointer (some ⟨br,0,none⟩)∧e 4=Iz rw1.1∧∃ g',Ext g5 w6 g' w'∧∃ rows,apnd 8 d.Rows [rw1.1]=some rows∧rec (q.2,⟨hh,rows⟩)=some r) (Za ?_) ?_
  ·refine Zo e2 rfl (Zo e5 rfl (Zn (.bool rw1.2) rfl rfl ?_))
   have fin:∀ (c:Bool) (e':Env),c=(bif rw1.2 then ((q.1.b.length:Int) == hh) else false)→True:=fun _ _ _=>trivial
   cases h2:rw1.2 with
   | true=>
    rw [h2] at hk;refine EL_y q.1.v (Zk e3) rfl rfl rfl rfl (EL_y (Iz (q.1.b.length:Int)) (P_lenS Tryz.underlying9 rfl) rfl rfl rfl rfl (EL_y (.pointer (some ⟨bd,0,none⟩)) (P_fa at_24_0 e1) rfl rfl rfl rfl (Ze (.yes2 rfl rfl rfl) rfl (D_load1 Tryz.isAgg3 rfl (hd.cell.trans rfl) (EL_y (.bool ((q.1.b.length:Int) == hh)) (P_int rfl rfl rfl) rfl rfl rfl rfl (EL_p (.bool ((q.1.b.length:Int) == hh)) (Zl rfl rfl) rfl (X_bnd (vs:=[.pointer (some ⟨br,0,none⟩),.bool ((q.1.b.length:Int) == hh)]) en64 (.cons rfl (.cons rfl .nil)) .plain rfl hk (fun a ha=>wk64 hb ha) (fun l e' g' w' hr hs=>endP hr (hfr.ext hs)) (fun y g' w' v hs hR hx hk=>?_))))))));obtain ⟨rows,hrows,hk⟩:=bsome hk;exact Zb ⟨rfl,e1,e2,e4,g',hs,rows,hrows,hk⟩
   | false=>
    rw [h2] at hk;refine EL_s rfl rfl (c':=false) rfl rfl rfl (EL_s rfl rfl (c':=false) rfl rfl rfl (EL_s rfl rfl (c':=false) rfl rfl rfl (EL_s rfl rfl (c':=false) rfl rfl rfl (EL_s rfl rfl (c':=false) rfl rfl rfl (EL_p (.bool false) (Zl rfl rfl) rfl (X_bnd (vs:=[.pointer (some ⟨br,0,none⟩),.bool false]) en64 (.cons rfl (.cons rfl .nil)) .plain rfl hk (fun a ha=>wk64 hb ha) (fun l e' g' w' hr hs=>endP hr (hfr.ext hs)) (fun y g' w' v hs hR hx hk=>?_)))))));obtain ⟨_,hf⟩:=hR
    cases hf
  rintro e ds w7 ⟨rfl,e1,e2,e4,g7,hs7,rows,hrows,hk⟩;have hfr:=hfr.ext hs7;have hd:=hd.ext hs7;have rR:=rR.ext hs7;have oR:=oR.ext hs7;have hb:=hb.ext hs7;refine Za (EL_p (.pointer (some ⟨bd,1,none⟩)) (P_fa at_24_1 e1) rfl (EL_d0 rfl (D_load1 Tryz.isAgg22 rfl (hd.cell.trans rfl) (Zo e4 rfl (EL_d0 rfl (D_buildSlice (g:=g7) 7 (xs:=([rw1.1]:List Int)) (vs:=[Iz rw1.1]) Tryz.underlying22 Tryz.sizeOf3 Tryz.zeroValue3 rfl rfl (.cons rfl .nil) (RVs.cons (Zj.2 rfl) RVs.nil) rfl rfl fun g8 w8 v8 hs8 o8 r8 hx8 _=>(EL_d0 rfl (D_append (g:=g8) (i:=6) Tryz.underlying22 infoR_3 rfl rfl (oR.ext hx8) (rR.ext hx8) rfl r8 hrows fun g9 w9 v9 hs9 o9 r9 _=>(EL_p (.pointer (some ⟨bd,1,none⟩)) (P_fa at_24_1 e1) rfl (EL_d0 rfl (D_store1 (c:=v9) Tryz.sizeOf22 rfl rfl (by obtain ⟨_,_,rfl,_⟩:=RV_list r9; rfl) (by simp) ((hd.ext hx8).stp hs9 rfl) fun w10 hs10 hd10 _=>(Zb (blk_n (Zd ?_))))))))))))));exact hX (q.2,⟨hh,rows⟩) _ _ _ ⟨rfl,e1,e2,g9,v9,((hfr.ext hx8).stp hs9).stp hs10,((hb.ext hx8).stp hs9 rfl).stp hs10 rfl,hd10,r9.stp hs10,o9.stp hs10 rfl⟩ hk
 refine Calls.mono key ?_;rintro r w' (⟨v,rfl,g',hs,hr⟩ | ⟨c,rfl,hx,g',hs⟩)
 ·exact .inl ⟨v,rfl,_,hs.fin,hr⟩
 ·exact .inr ⟨c,rfl,hx,_,hs.fin⟩
theorem end1c2 {P : Program} {fn : Func} {t0 t1 t2 : Tmp} {y0 : TypeId} {α : Type} [GoT α] {i : Nat} {d : α} {e : Env} {ds : List Deferred} {g : Gh} {w : World} {p v1 v2 : Value} {R : Value → World → Prop} (hres : fn.results = #[.cell t0 y0, .tmp t1, .tmp t2]) (hd : ds = []) (b : OB i g w y0 d p)
  (a0:∀ w,(isAgg y0).run P w=.ok (GoT.agg α) w) (s0:∀ w,(sizeOf y0).run P w=.ok (GoT.k α) w) (h0:e t0=p) (h1:e t1=v1) (h2:e t2=v2) (h:∀ v,RV g.m w d v→R (.tuple #[v,v1,v2]) w):atEnd P fn R .ret e ds w:=by
 refine ⟨hd,fun tmps ht=>?_⟩
 obtain ⟨c2,cs2,rfl,_,_,hh2,hr2⟩:=b
 have l2:=loadVar_run (P:=P) (b:=c2) (off:=0) a0 s0 hr2 (fun j c hj=>by simpa [World.cell?,hh2] using hj)
 have h0:=(ht t0).trans h0
 have h1:=(ht t1).trans h1
 have h2:=(ht t2).trans h2
 simp only [Array.getD_eq_getD_getElem?] at h0 h1 h2
 have hq:∀ (a:Addr),(asAddr (.pointer (some a))).run P w=.ok a w:=fun _=>rfl
 refine ⟨.tuple #[toV (GoT.agg α) cs2.toList,v1,v2],?_,h _ ⟨_,hr2,rfl⟩⟩
 simp [results,hres,h0,h1,h2,l2,hq]
def f19 (s:Str):Option (Design × Int × Int):=(f60 s).bind fun a=>some (f59 a)
theorem en19:Enters Tryz.prog 19:=enters_of Tryz.func19 (by kernel_rfl) rfl
theorem wk19 (hTI:TabR gI.m wI) {s:Str} {r:Design × Int × Int} (h:f19 s=some r):Fn Tryz.prog 19 #[s.v] gI wI (fun m w v=>∃ y0 y1 y2,v=.tuple #[y0,y1,y2]∧RV m w r.1 y0∧y1=Iz r.2.1∧y2=Iz r.2.2):=by
 obtain ⟨a,ha,h⟩:=bsome h;obtain rfl:=sinj h;refine fnE Tryz.func19 rfl rfl fun g0 hm hfr=>?_;show E _ 10 none _ _ _ _ _;have hT:TabR g0.m wI:=hm ▸ hTI;refine E_sr (EL_d0 rfl (D_box (g:=g0) (a:=s) rfl (RV_str.2 rfl) fun g1 w1 p hs1 hp=>(EL_d0 rfl (D_allocX (g:=g1) 5 (⟨0,[]⟩:Design) Tryz.zeroValue24 rz_Design fun g2 w2 p2 hs2 b2=>(Zg (Iz 0) rfl rfl (Zg (Iz 0) rfl rfl (EL_nt (E_sr ?_))))))));have hp:=hp.ext hs2;have hfr:=(hfr.ext hs1).ext hs2;refine EL_p (.func (.func 60) #[] #[p]) (P_makeFunc (by simp; rfl)) rfl (EL_d0 rfl (Zp (g:=g2) (vs:=[.func (.func 60) #[] #[p]]) en59 (.cons rfl .nil) (wk59 (gI:=g2) (first:=#[]) (caps:=#[p]) en60 (a:=a) fun g w hc=>wk60 (hT.ch (hs1.ch.trans (hs2.ch.trans hc))) (hp.ch hc) ha) fun g3 w3 v hs3 hv=>?_));obtain ⟨y,rfl,ry⟩:=hv;refine EL_p y (Zi rfl rfl) rfl (EL_p (Iz (f59 a).2.1) (Zi rfl rfl) rfl (EL_p (Iz (f59 a).2.2) (Zi rfl rfl) rfl (EL_d0 rfl (D_storeO (g:=g3) (a':=(f59 a).1) Tryz.sizeOf24 rfl (b2.ext hs3) rfl ry fun g4 w4 hs4 b2=>(Zg (Iz (f59 a).2.1) rfl rfl (Zg (Iz (f59 a).2.2) rfl rfl (EL_nt (E_ret ?_))))))));exact end1c2 rfl rfl b2 Tryz.isAgg24 Tryz.sizeOf24 rfl rfl rfl fun v rv=>⟨g4,(hfr.ext hs3).stp hs4,v,_,_,rfl,rv,rfl,rfl⟩
end

abbrev RawC:=Str × Int × Fv
theorem rawC_rep {m:Nat→Nat} {w:World} {q:RawC} {cs:List Value} (h:GoT.rep m w q cs):cs=[q.1.v,Iz q.2.1,q.2.2.v]:=by
 obtain ⟨c1,c2,rfl,h1,c3,c4,rfl,h2,h3⟩:=h;rw [show c1=[q.1.v] from h1,show c3=[Iz q.2.1] from h2,show c4=[q.2.2.v] from h3]; rfl
theorem rawC_plain:Plain RawC:=fun _ _ _ _ _ _ h=>h
def ChR (g:Gh) (w:World) (q:RawC) (c:BookChain):Prop:=q.1=c.Name∧q.2.1=c.Chain.Hooks∧RV g.m w c.Chain.Cards q.2.2.v
def MB (g:Gh) (w:World) (b:Nat) (x:BookMiller):Prop:=
 ∃ vT vC,∃ cr:List RawC,RB g w b 144 x.reader [vT,vC]∧OS 2 g w 108 x.mill.Ties vT∧RV g.m w x.mill.Ties vT∧OA 3 g w 94 cr vC∧cr.length=x.mill.Chains.length∧(∀ (i:Nat) (q:RawC) (c:BookChain),cr[i]?=some q→x.mill.Chains[i]?=some c→ChR g w q c)∧∀ (q:RawC) (c:BookChain),cr.getLast?=some q→x.mill.Chains.getLast?=some c→OS 4 g w 96 c.Chain.Cards q.2.2.v
theorem HBm.gh {i b:Nat} {g g':Gh} {w:World} {ob:Obj} (h:HBm i g w b ob) (hm:g'.m=g.m) (ho:∀ b,g.o b=i→g'.o b=i):HBm i g' w b ob:=⟨ho b h.1,(congrFun hm b).trans h.2.1,h.2.2⟩
theorem OS.gh {α:Type} [GoT α] {i:Nat} {g g':Gh} {w:World} {t:TypeId} {xs:List α} {v:Value} (h:OS i g w t xs v) (hm:g'.m=g.m) (ho:∀ b,g.o b=i→g'.o b=i):OS i g' w t xs v:=by
 rcases h with h | ⟨b,c,cs,hp,h1,h2,h3⟩
 ·exact .inl h
 ·exact .inr ⟨b,c,cs,hp,ho b h1,(congrFun hm b).trans h2,h3⟩
theorem OA.gh {α:Type} [GoT α] {i:Nat} {g g':Gh} {w:World} {t:TypeId} {xs:List α} {v:Value} (h:OA i g w t xs v) (hm:g'.m=g.m) (ho:∀ b,g.o b=i→g'.o b=i):OA i g' w t xs v:=by
 rcases h with h | ⟨b,c,cs,hp,h1,h2,h3,h4,h5,h6,h7⟩
 ·exact .inl h
 ·exact .inr ⟨b,c,cs,hp,ho b h1,(congrFun hm b).trans h2,h3,h4,h5,h6,by rw [hm]; exact h7⟩
theorem ChR.ch {g g':Gh} {w w':World} {q:RawC} {c:BookChain} (h:ChR g w q c) (k:Ch g.m w g'.m w'):ChR g' w' q c:=⟨h.1,h.2.1,h.2.2.ch k⟩
section
variable {g g':Gh} {w w':World} {b:Nat} {x:BookMiller}
theorem MB.gh (h:MB g w b x) (hm:g'.m=g.m) (ho:∀ i b,rdr i=true→g.o b=i→g'.o b=i):MB g' w b x:=by
 obtain ⟨vT,vC,cr,h1,h2,h3,h4,h5,h6,h7⟩:=h;exact ⟨vT,vC,cr,HBm.gh h1 hm fun b=>ho 1 b rfl,h2.gh hm fun b=>ho 2 b rfl,hm ▸ h3,h4.gh hm fun b=>ho 3 b rfl,h5,fun i q c hq hc=>⟨(h6 i q c hq hc).1,(h6 i q c hq hc).2.1,hm ▸ (h6 i q c hq hc).2.2⟩,fun q c hq hc=>(h7 q c hq hc).gh hm fun b=>ho 4 b rfl⟩
theorem MB.ext (h:MB g w b x) (k:Ext g w g' w'):MB g' w' b x:=by
 obtain ⟨vT,vC,cr,h1,h2,h3,h4,h5,h6,h7⟩:=h;exact ⟨vT,vC,cr,HBm.ext h1 k,h2.ext k,h3.ext k,h4.ext k,h5,fun i q c hq hc=>(h6 i q c hq hc).ch k.ch,fun q c hq hc=>(h7 q c hq hc).ext k⟩
theorem MB.stp {j:Nat} (h:MB g w b x) (k:Stp j g w g' w') (hj:rdr j=false):MB g' w' b x:=by
 have hne:∀ i,rdr i=true→Nat.beq i j=false:=fun i hi=>by
  cases hb:Nat.beq i j with
  | false=>rfl
  | true=>have:=Nat.eq_of_beq_eq_true hb; subst this; rw [hi] at hj; cases hj
 obtain ⟨vT,vC,cr,h1,h2,h3,h4,h5,h6,h7⟩:=h;exact ⟨vT,vC,cr,HBm.stp h1 k (hne 1 rfl),h2.stp k (hne 2 rfl),h3.stp k,h4.stp k (hne 3 rfl),h5,fun i q c hq hc=>(h6 i q c hq hc).ch k.ch,fun q c hq hc=>(h7 q c hq hc).stp k (hne 4 rfl)⟩
theorem MB.rd (h:MB g w b x):∃ tl,RB g w b 144 x.reader tl∧∀ g' w' y,Stp 1 g w g' w'→RB g' w' b 144 y tl→MB g' w' b ⟨y,x.mill⟩:=by
 obtain ⟨vT,vC,cr,h1,h2,h3,h4,h5,h6,h7⟩:=h;exact ⟨_,h1,fun g' w' y k hb=>⟨vT,vC,cr,hb,h2.stp k rfl,h3.stp k,h4.stp k rfl,h5,fun i q c hq hc=>(h6 i q c hq hc).ch k.ch,fun q c hq hc=>(h7 q c hq hc).stp k rfl⟩⟩
theorem MB.start (h:MB g w b x):MB (ghR g) w b x:=h.gh rfl fun _ _ hi hb=>ghR_t hb hi
theorem MB.fin {gI:Gh} {wI:World} (h:MB g w b x) (hf:FrR gI wI g w):MB (finR gI wI g) w b x:=h.gh rfl fun _ _ hi hb=>hf.fin_o hb hi
theorem oa_cell {cr:List RawC} {v:Value} {i:Nat} {q:RawC} (h:OA 3 g w 94 cr v) (hi:cr[i]?=some q):∃ bc c,v=.slice (some ⟨bc,0,none⟩) cr.length c∧∃ cs,HBm 3 g w bc (.cells cs 94 (0,0))∧cs[i * 3]?=some q.1.v∧cs[i * 3 + 1]?=some (Iz q.2.1)∧cs[i * 3 + 2]?=some q.2.2.v:=by
 rcases h with ⟨_,rfl⟩ | ⟨bc,c,cs,rfl,ho,hm,hh,h1,h2,h3,hf⟩
 ·cases hi
 obtain ⟨cl,hr,hc⟩:=hf.get hi;obtain rfl:=rawC_rep hr;have hlt:i < cr.length:=(List.getElem?_eq_some_iff.1 hi).1;have k3:GoT.k RawC=3:=rfl;rw [k3] at hc
 have get:∀ j v,[q.1.v,Iz q.2.1,q.2.2.v][j]?=some v→cs[i * 3 + j]?=some v:=fun j v hj=>by
  have h4:=hc j v hj;rw [List.getElem?_take] at h4;split at h4
  ·simpa using h4
  ·cases h4
 exact ⟨bc,c,rfl,cs,⟨ho,hm,hh⟩,get 0 _ rfl,get 1 _ rfl,get 2 _ rfl⟩
end
def lastP (v:Value) (n:Nat):Value:=
 match v with
 | .slice (some a) _ _=>bif Nat.beq n 0 then .pointer none else .pointer (some ⟨a.block,(n - 1) * 3,none⟩)
 | _=>.pointer none
theorem P_idxS {P : Program} {e : Env} {x y : Operand} {t et : TypeId} {bc n c k : Nat} {i : Int} (ht : P.underlying t = some (.slice et)) (hs : ∀ w, (sizeOf et).run P w = .ok k w) (hx : ev e x = .slice (some ⟨bc, 0, none⟩) n c) (hy : ev e y = Iz i) (h0 : 0 ≤ i) (h1 : i.toNat < n) :
  Pur P (.indexAddr t x y) e (.pointer (some ⟨bc,i.toNat * k,none⟩)):=fun _ _ _ _ _ w'=>by
 have hl:i < (n:Int):=by omega
 simp [execOp,hx,hy,Instr.indexAt,asIntOf,Sem.run_bind,run_underlying ht,Result.andThen,h0,hl,hs,addr_add]
section
variable {gI:Gh} {wI:World} {b:Nat} {x:BookMiller}
theorem en122:Enters Tryz.prog 122:=enters_of Tryz.func122 (by kernel_rfl) rfl
theorem RB_inj {g:Gh} {w:World} {b T:Nat} {y:BookReader} {u v u' v':Value} (h:RB g w b T y [u,v]) (h':RB g w b T y [u',v']):u=u'∧v=v':=by
 have e:=h.2.2.symm.trans h'.2.2;simp at e;exact e
theorem wk122 {vT vC:Value} (hrd:RB gI wI b 144 x.reader [vT,vC]) (hb:MB gI wI b x):Calls Tryz.prog 122 #[.pointer (some ⟨b,0,none⟩)] wI fun e w'=>e=.returned (lastP vC x.mill.Chains.length)∧w'=wI:=by
 obtain ⟨vT,vC,cr,h1,h2,h3,h4,h5,h6,h7⟩:=hb;obtain ⟨rfl,rfl⟩:=RB_inj hrd h1;refine (Calls.mono (calls_of_E (R:=fun v w'=>v=lastP vC x.mill.Chains.length∧w'=wI) Tryz.func122 rfl (Nat.le_of_ble_eq_true rfl) ?_) (fun r w' ⟨v,hr,hv,hw⟩=>⟨by rw [hr,hv],hw⟩));show E _ 20 none _ _ _ _ _
 have hlen:∃ a c,vC=.slice a x.mill.Chains.length c∧(0 < x.mill.Chains.length→∃ bc,a=some ⟨bc,0,none⟩)∧(x.mill.Chains.length=0→lastP vC 0=.pointer none)∧x.mill.Chains.length ≤ maxLen:=by
  rcases h4 with ⟨rfl,rfl⟩ | ⟨bc,c,cs,rfl,_,_,_,h8,h9,_⟩
  ·refine ⟨none, 0, by rw [← h5]; rfl, fun h => ?_, fun _ => rfl, by rw [← h5]; exact Nat.zero_le _⟩
   rw [← h5] at h; simp at h
  ·exact ⟨_,c,by rw [h5],fun _=>⟨bc,rfl⟩,fun _=>rfl,by omega⟩
 obtain ⟨a,c,rfl,ha,hz,hmx⟩:=hlen;refine E_sr (Zg (.pointer none) rfl rfl (EL_nt (Zf (E_sr (Zn (.pointer (some ⟨b,0,none⟩)) rfl rfl (EL_p (.pointer (some ⟨b,0,none⟩)) (P_nilCheck rfl) rfl (EL_p (.pointer (some ⟨b,3,none⟩)) (P_fa at_144_1 rfl) rfl (EL_p (.pointer (some ⟨b,4,none⟩)) (P_fa at_39_1 rfl) rfl (EL_d0 rfl (D_load1 Tryz.isAgg37 rfl (h1.cell.trans rfl) (EL_p (Iz (x.mill.Chains.length:Int)) (P_lenH Tryz.underlying37 rfl ⟨_,_,rfl⟩) rfl (Zg (Iz (x.mill.Chains.length:Int)) rfl rfl (EL_nt (E_sr (Zn (Iz (x.mill.Chains.length:Int)) rfl rfl (EL_in (.bool (decide ((x.mill.Chains.length:Int) > 0))) rfl rfl rfl rfl (EL_nt ?_)))))))))))))))));by_cases hp:0 < x.mill.Chains.length
 ·obtain ⟨bc, rfl⟩ := ha hp
  refine E_ct (by simpa using hp) rfl (E_sr (Zn (.pointer (some ⟨b,0,none⟩)) rfl rfl (EL_p (.pointer (some ⟨b,0,none⟩)) (P_nilCheck rfl) rfl (EL_p (.pointer (some ⟨b,3,none⟩)) (P_fa at_144_1 rfl) rfl (EL_p (.pointer (some ⟨b,4,none⟩)) (P_fa at_39_1 rfl) rfl (EL_d0 rfl (D_load1 Tryz.isAgg37 rfl (h1.cell.trans rfl) (Zn (Iz (x.mill.Chains.length:Int)) rfl rfl (EL_in (Iz (w64 ((x.mill.Chains.length:Int) - 1))) rfl rfl rfl rfl ?_)))))))));have hmx':x.mill.Chains.length ≤ 9223372036854775807:=hmx
  have hw:w64 ((x.mill.Chains.length:Int) - 1)=((x.mill.Chains.length - 1:Nat):Int):=by rw [w64_id (by omega) (by omega)]; omega
  refine EL_p (.pointer (some ⟨bc,(w64 ((x.mill.Chains.length:Int) - 1)).toNat * 3,none⟩)) (P_idxS Tryz.underlying37 Tryz.sizeOf94 rfl rfl (by rw [hw]; omega) (by rw [hw,Int.toNat_natCast]; omega)) rfl (Zg (.pointer (some ⟨bc,(w64 ((x.mill.Chains.length:Int) - 1)).toNat * 3,none⟩)) rfl rfl (EL_nt (E_ret (thn_r (end1 (v:=.pointer (some ⟨bc,(w64 ((x.mill.Chains.length:Int) - 1)).toNat * 3,none⟩)) rfl rfl rfl ⟨?_,rfl⟩)))));rw [hw,Int.toNat_natCast]
  have : Nat.beq x.mill.Chains.length 0 = false := by cases hq : Nat.beq x.mill.Chains.length 0 with
   | false=>rfl
   | true=>have:=Nat.eq_of_beq_eq_true hq; omega
  simp [lastP,this]
 ·refine E_cf (by simpa using hp) rfl (Zu (Zd (E_sr (Zg (.pointer none) rfl rfl (EL_nt (E_ret ?_))))))
  have h0:x.mill.Chains.length=0:=by omega
  refine end1 (v:=.pointer none) rfl rfl rfl ⟨?_,rfl⟩;rw [h0] at hz ⊢;exact (hz rfl).symm
theorem MB.lastc (hb : MB gI wI b x) {c : BookChain} (hc : x.mill.Chains.getLast? = some c) : ∃ vT vC, ∃ cr : List RawC, ∃ q : RawC, ∃ bc cp cs, RB gI wI b 144 x.reader [vT, vC] ∧ vC = .slice (some ⟨bc, 0, none⟩) x.mill.Chains.length cp ∧ OA 3 gI wI 94 cr vC ∧ cr.length = x.mill.Chains.length ∧ cr[x.mill.Chains.length - 1]? = some q ∧ HBm 3 gI wI bc (.cells cs 94 (0, 0)) ∧
  cs[(x.mill.Chains.length - 1) * 3]?=some c.Name.v∧cs[(x.mill.Chains.length - 1) * 3 + 1]?=some (Iz c.Chain.Hooks)∧cs[(x.mill.Chains.length - 1) * 3 + 2]?=some q.2.2.v∧RV gI.m wI c.Chain.Cards q.2.2.v∧OS 4 gI wI 96 c.Chain.Cards q.2.2.v∧lastP vC x.mill.Chains.length=.pointer (some ⟨bc,(x.mill.Chains.length - 1) * 3,none⟩)∧OS 2 gI wI 108 x.mill.Ties vT∧RV gI.m wI x.mill.Ties vT∧∀ (i:Nat) (q:RawC) (c:BookChain),cr[i]?=some q→x.mill.Chains[i]?=some c→ChR gI wI q c:=by
 obtain ⟨vT,vC,cr,h1,h2,h3,h4,h5,h6,h7⟩:=hb
 rw [List.getLast?_eq_getElem?] at hc
 have hlt:x.mill.Chains.length - 1 < x.mill.Chains.length:=(List.getElem?_eq_some_iff.1 hc).1
 have hq:cr[x.mill.Chains.length - 1]?=some cr[x.mill.Chains.length - 1]:=List.getElem?_eq_getElem (by omega)
 generalize cr[x.mill.Chains.length - 1]=q at hq
 obtain ⟨bc,cp,hv,cs,hh,c0,c1,c2⟩:=oa_cell h4 hq
 obtain ⟨r1,r2,r3⟩:=h6 _ q c hq hc
 refine ⟨vT,vC,cr,q,bc,cp,cs,h1,by rw [hv,h5],h4,h5,hq,hh,r1 ▸ c0,r2 ▸ c1,c2,r3,h7 q c (by rw [List.getLast?_eq_getElem?,h5]; exact hq) (by rw [List.getLast?_eq_getElem?]; exact hc),?_,h2,h3,h6⟩
 have : Nat.beq x.mill.Chains.length 0 = false := by cases hq : Nat.beq x.mill.Chains.length 0 with
  | false=>rfl
  | true=>have:=Nat.eq_of_beq_eq_true hq; omega
 simp [lastP,hv,this]
theorem MB.nol (hb:MB gI wI b x) (hc:x.mill.Chains.getLast?=none) (v:Value):lastP v x.mill.Chains.length=.pointer none:=by
 have h0:x.mill.Chains.length=0:=by rw [List.getLast?_eq_none_iff] at hc; rw [hc]; rfl
 rw [h0];unfold lastP;split <;> rfl
theorem eql195 {a:Option Addr} (w:World):(binOp .eql 195 (.pointer a) (.pointer none)).run Tryz.prog w=.ok (.bool a.isNone) w:=run_eql_pointer_nil w 195 a Tryz.underlying195
def f125c (x : BookMiller) : Bool := match x.mill.Chains.getLast? with
 | none=>true
 | some c=>decide ((c.Chain.Cards.length:Int) > 0)
def f125 (x:BookMiller):Option (PR Unit):=bnd (f64 x.reader (f125c x)) fun _=>some (.ok ())
theorem en125:Enters Tryz.prog 125:=enters_of Tryz.func125 (by kernel_rfl) rfl
theorem wk125 (hb:MB gI wI b x) {r:PR Unit} (h:f125 x=some r):FnS (Ext gI wI) Tryz.prog 125 #[.pointer (some ⟨b,0,none⟩)] wI (okR r fun _ _ _ v=>v=.tuple #[]) (pnR 177 r):=by
 obtain ⟨vT,vC,hrd⟩:∃ vT vC,RB gI wI b 144 x.reader [vT,vC]:=let ⟨vT,vC,_,h1,_⟩:=hb; ⟨vT,vC,h1⟩;have hcall:=wk122 hrd hb;refine fnS_of_E Tryz.func125 rfl (Nat.le_of_ble_eq_true rfl) ?_;show E _ 20 none _ _ _ _ _;refine E_sr (Zn (.pointer (some ⟨b,0,none⟩)) rfl rfl (EL_d0 rfl (D_callC (vs:=[.pointer (some ⟨b,0,none⟩)]) (R:=fun v w'=>v=lastP vC x.mill.Chains.length∧w'=wI) en122 (.cons rfl .nil) (Calls.mono hcall fun r w' ⟨h1,h2⟩=>⟨_,h1,rfl,h2⟩) fun v w' hv=>?_)));obtain ⟨rfl,rfl⟩:=hv;refine Zg (lastP vC x.mill.Chains.length) rfl rfl (EL_nt ?_);unfold f125 f125c at h
 cases hc:x.mill.Chains.getLast? with
 | none=>
  rw [hc] at h;rw [MB.nol hb hc];refine E_drawC (g:=gI) (n:=14) [0,1,2,3,4,5,6,7,8,9,10,11,12,13] [3] [0,1,2,3,4,5,6,7,8,9,10,11,12,13] rfl mixedR (by kernel_rfl) fun wc hx hlt=>(CH_pur (c:=.pointer (some ⟨b,0,none⟩)) rfl rfl .plain (Zk rfl) (CH_pur (c:=.pointer (some ⟨b,0,none⟩)) rfl rfl .plain (P_nilCheck rfl) (CH_pur (c:=.pointer (some ⟨b,0,none⟩)) rfl rfl .plain (P_fa at_144_0 rfl) (CH_pur (c:=.pointer none) rfl rfl .plain (Zk rfl) (CH_pur (c:=.bool true) rfl rfl .plain (P_ptreq (u1:=.pointer none) (u2:=.pointer none) (.inl rfl) rfl rfl ⟨_,rfl⟩ ⟨_,rfl⟩ fun w=>eql195 w) (CH_pur (c:=.bool true) rfl rfl .plain (Zk rfl) (CH_skip rfl (.no2 rfl rfl rfl rfl) (CH_skip rfl (.no2 rfl rfl rfl rfl) (CH_skip rfl (.no2 rfl rfl rfl rfl) (CH_skip rfl (.no2 rfl rfl rfl rfl) (CH_skip rfl (.no2 rfl rfl rfl rfl) (CH_skip rfl (.no2 rfl rfl rfl rfl) (CH_skip rfl (.no2 rfl rfl rfl rfl) (CH_pur (c:=.bool true) rfl rfl .plain (Zl rfl rfl) (CH_nil (X_bnd (vs:=[.pointer (some ⟨b,0,none⟩),.bool true]) en64 (.cons rfl (.cons rfl .nil)) .plain rfl h (fun a ha=>wk64 (hrd.ext hx) ha) (fun l e' g' w' hr hs=>endP hr (hx.trans hs)) (fun y g' w' v hs hR hx' hk=>?_)))))))))))))))));obtain rfl:=sinj hk;exact Zb (end0n rfl rfl ⟨g',hx.trans hs,_,rfl,rfl⟩)
 | some c=>
  rw [hc] at h;obtain ⟨vT',vC',cr,q,bc,cp,cs,h1,hv,h4,h5,hq,hh,c0,c1,c2,r3,o3,hl,_,_,_⟩:=MB.lastc hb hc;obtain ⟨rfl,rfl⟩:=RB_inj hrd h1;rw [hl];refine E_drawC (g:=gI) (n:=14) [0,1,2,3,4,5,6,7,8,9,10,11,12,13] [3] [0,1,2,3,4,5,6,7,8,9,10,11,12,13] rfl mixedR (by kernel_rfl) fun wc hx hlt=>(CH_pur (c:=.pointer (some ⟨b,0,none⟩)) rfl rfl .plain (Zk rfl) (CH_pur (c:=.pointer (some ⟨b,0,none⟩)) rfl rfl .plain (P_nilCheck rfl) (CH_pur (c:=.pointer (some ⟨b,0,none⟩)) rfl rfl .plain (P_fa at_144_0 rfl) (CH_pur (c:=.pointer (some ⟨bc,(x.mill.Chains.length - 1) * 3,none⟩)) rfl rfl .plain (Zk rfl) (CH_pur (c:=.bool false) rfl rfl .plain (P_ptreq (u1:=.pointer (some ⟨bc,(x.mill.Chains.length - 1) * 3,none⟩)) (u2:=.pointer none) (.inl rfl) rfl rfl ⟨_,rfl⟩ ⟨_,rfl⟩ fun w=>eql195 w) (CH_pur (c:=.bool false) rfl rfl .plain (Zk rfl) (CH_pur (c:=.pointer (some ⟨bc,(x.mill.Chains.length - 1) * 3,none⟩)) rfl rfl (.yes2 rfl rfl rfl) (Zk rfl) (CH_pur (c:=.pointer (some ⟨bc,(x.mill.Chains.length - 1) * 3,none⟩)) rfl rfl (.yes2 rfl rfl rfl) (P_nilCheck rfl) (CH_pur (c:=.pointer (some ⟨bc,(x.mill.Chains.length - 1) * 3 + 1,none⟩)) rfl rfl (.yes2 rfl rfl rfl) (P_fa at_94_1 rfl) (CH_pur (c:=.pointer (some ⟨bc,(x.mill.Chains.length - 1) * 3 + 2,none⟩)) rfl rfl (.yes2 rfl rfl rfl) (P_fa (o:=(x.mill.Chains.length - 1) * 3 + 1) at_92_1 rfl) (CH_ldO (n:=3) (c:=q.2.2.v) rfl rfl (.yes2 rfl rfl rfl) (L_ldW Tryz.isAgg90 hh c2 _) rfl rfl (CH_pur (c:=Iz (c.Chain.Cards.length:Int)) rfl rfl (.yes2 rfl rfl rfl) (P_len Tryz.underlying90 rfl r3) (CH_pur (c:=.bool (decide ((c.Chain.Cards.length:Int) > 0))) rfl rfl (.yes2 rfl rfl rfl) (P_int rfl rfl rfl) (CH_pur (c:=.bool (decide ((c.Chain.Cards.length:Int) > 0))) rfl rfl .plain (Zl rfl rfl) (CH_nil (X_bnd (vs:=[.pointer (some ⟨b,0,none⟩),.bool (decide ((c.Chain.Cards.length:Int) > 0))]) en64 (.cons rfl (.cons rfl .nil)) .plain rfl h (fun a ha=>wk64 (hrd.ext hx) ha) (fun l e' g' w' hr hs=>endP hr (hx.trans hs)) (fun y g' w' v hs hR hx' hk=>?_)))))))))))))))));obtain rfl:=sinj hk;exact Zb (end0n rfl rfl ⟨g',hx.trans hs,_,rfl,rfl⟩)
def f78 (s:Str):Option (List Str):=bif decide (s.b.length < 4294967281) then some ((wordsC 32 s.b).map Str.mk) else none
theorem en78:Enters Tryz.prog 78:=enters_of Tryz.func78 (by kernel_rfl) rfl
theorem splitB_words (s:List UInt8):(Lib.splitB ⟨⟨[32]⟩⟩ 0 (Lib.countB ⟨⟨s⟩⟩ ⟨⟨[32]⟩⟩) ⟨⟨s⟩⟩).map Value.string=((wordsC 32 s).map Str.mk).map Str.v:=by
 have h:=Lib.splitB_data ⟨⟨[32]⟩⟩ 0 (Lib.countB ⟨⟨s⟩⟩ ⟨⟨[32]⟩⟩) ⟨⟨s⟩⟩;have hc:Lib.countB ⟨⟨s⟩⟩ ⟨⟨[32]⟩⟩=s.count 32:=Lib.count_one 32 s;rw [hc] at h ⊢;rw [show (ByteArray.mk ⟨[32]⟩).data.toList=[32] from rfl,show (ByteArray.mk ⟨s⟩).data.toList=s from rfl,splitK_words 32 _ s rfl] at h;rw [← h,List.map_map,List.map_map];rfl
theorem wk78 (hT:TabR gI.m wI) {s:Str} {r:List Str} (h:f78 s=some r):Fn Tryz.prog 78 #[s.v,Str.v ⟨[32]⟩] gI wI (fun m w v=>RV m w r v):=by
 rcases Zt h with ⟨hl,h⟩ | ⟨_,h⟩;rotate_left
 ·cases h
 injection h with h;obtain ⟨_,_,_,hm,n,rfl⟩:=hT.max;refine Calls.mono (Tryz.strings_Split ⟨⟨s.b⟩⟩ ⟨⟨[32]⟩⟩ n wI (by have:=of_decide_eq_true hl; exact this) hm (by decide)) ?_;rintro e w' ⟨rfl,rfl⟩;rw [splitB_words]
 have hlen:Lib.countB ⟨⟨s.b⟩⟩ ⟨⟨[32]⟩⟩ + 1=r.length:=by
  have h1:=Lib.splitB_all ⟨⟨[32]⟩⟩ (by decide) 0 _ ⟨⟨s.b⟩⟩ rfl;have h2:=congrArg List.length (splitB_words s.b);rw [List.length_map,h1,h] at h2;simpa using h2
 rw [h,hlen];refine ⟨_,rfl,_,ext_new gI wI _ 9,RV_list_mk rfl (Nat.le_refl _) fun _=>⟨wI.heap.size,0,rfl,by simp,?_,fun i y hy=>⟨[y.v],rfl,fun j c hj=>?_⟩⟩⟩
 ·show 0 + r.length * GoT.k Str ≤ updN gI.m wI.heap.size _ wI.heap.size
  rw [updN_same]; simp [show GoT.k Str=1 from rfl]
 ·rw [cell_new_at]
  have hj0:j=0:=by have:=(List.getElem?_eq_some_iff.1 hj).1; simp at this; omega
  subst hj0;injection hj with hj;subst hj;simp [show GoT.k Str=1 from rfl,hy]
def f123a (ws:List Str) (before:Str):Option Bool:=
 bif decide ((ws.length:Int) ≥ 3) then (idx ws 1).bind fun u=>(f145 u).bind fun n=>bif n then some (!(Op.bytesLess u.b before.b || u.b == before.b)) else some false else some false
def f123 (x:BookReader) (ws:List Str) (before:Str):Option (PR Int):=
 (f123a ws before).bind fun c=>bnd (f64 x c) fun _=>(idx ws 2).bind fun u=>bnd (f124 x u) fun h=>(f100 1 24 [h]).bind fun c2=>bnd (f64 x c2) fun _=>some (.ok h)
theorem en123:Enters Tryz.prog 123:=enters_of Tryz.func123 (by kernel_rfl) rfl
theorem wk123 (hT:TabR gI.m wI) {T:Nat} {tl:List Value} {y:BookReader} (hb:RB gI wI b T y tl) {ws:List Str} {vW:Value} (rW:RV gI.m wI ws vW) {before:Str} {r:PR Int} (h:f123 y ws before=some r):FnS (Ext gI wI) Tryz.prog 123 #[.pointer (some ⟨b,0,none⟩),vW,before.v] wI (okR r fun z _ _ v=>v=Iz z) (pnR 177 r):=by
 obtain ⟨c,hcc,h⟩:=bsome h;refine fnS_of_E Tryz.func123 rfl (Nat.le_of_ble_eq_true rfl) ?_;show E _ 43 none _ _ _ _ _;refine E_sr (Zg (Iz 0) rfl rfl (EL_nt (E_cut (fun e ds w'=>ds=[]∧e 0=.pointer (some ⟨b,0,none⟩)∧e 1=vW∧∃ g',Ext gI wI g' w'∧∃ u,idx ws 2=some u∧(bnd (f124 y u) fun h=>(f100 1 24 [h]).bind fun c2=>bnd (f64 y c2) fun _=>some (.ok h))=some r) ?_ ?_)))
 ·unfold f123a at hcc
  rcases Zt hcc with ⟨h3,hcc⟩ | ⟨h3,hcc⟩
  ·obtain ⟨u, hu, hcc⟩ := bsome hcc
   obtain ⟨nm,hnm,hcc⟩:=bsome hcc;refine Zs (x:=.tmp 16) Tryz.isAgg9 Tryz.sizeOf9 (PT_idx rW hu) fun vc rc hld=>?_;obtain rfl:=RV_str.1 rc;refine Zs (x:=.tmp 22) Tryz.isAgg9 Tryz.sizeOf9 (PT_idx rW hu) fun vc rc2 hld2=>?_;obtain rfl:=RV_str.1 rc2;refine E_drawC (g:=gI) (n:=19) [0,1,2,3,4,5,6,7,8,9,11,12,13,14,15,16,17,18] [1] [0,1,2,3,4,5,6,7,8,9,10,11,12,13,14,15,16,17,18] rfl mixedR (by kernel_rfl) fun wc hx hlt=>(CH_pur (c:=.pointer (some ⟨b,0,none⟩)) rfl rfl .plain (Zk rfl) (CH_pur (c:=.pointer (some ⟨b,0,none⟩)) rfl rfl .plain (P_nilCheck rfl) (CH_pur (c:=.pointer (some ⟨b,0,none⟩)) rfl rfl .plain (P_fa at_144_0 rfl) (CH_pur (c:=vW) rfl rfl .plain (Zk rfl) (CH_pur (c:=Iz (ws.length:Int)) rfl rfl .plain (P_len Tryz.underlying104 rfl rW) (CH_pur (c:=.bool (decide ((ws.length:Int) ≥ 3))) rfl rfl .plain (P_int rfl rfl rfl) (CH_pur (c:=.bool (decide ((ws.length:Int) ≥ 3))) rfl rfl .plain (Zk rfl) (CH_pur (c:=vW) rfl rfl (.yes2 rfl rfl h3) (Zk rfl) (CH_pur (c:=ePtr vW 1 1) rfl rfl (.yes2 rfl rfl h3) (Zh (α:=Str) Tryz.underlying104 Tryz.sizeOf9 rfl rW rfl hu) (CH_ldP (c:=u.v) rfl rfl (.yes2 rfl rfl h3) hld rfl (CH_do rfl rfl (.yes2 rfl rfl h3) (Zp (g:=gI) (vs:=[u.v]) en145 (.cons rfl .nil) (wk145 hnm) fun g2 w2 v hs2 hv=>?_))))))))))));subst hv;refine ⟨(hlt.ext hs2).toW,?_⟩;refine CH_pur (c:=.bool nm) rfl rfl .plain (Zl rfl (by rw [h3]; rfl)) (CH_pur (c:=.bool nm) rfl rfl .plain (Zk rfl) ?_);have hs02:=hx.trans hs2;rcases Zt hcc with ⟨h4,hcc⟩ | ⟨h4,hcc⟩
   ·obtain rfl := sinj hcc
    refine CH_pur (c:=vW) rfl rfl (.yes2 rfl rfl h4) (Zk rfl) (CH_pur (c:=ePtr vW 1 1) rfl rfl (.yes2 rfl rfl h4) (Zh (α:=Str) Tryz.underlying104 Tryz.sizeOf9 rfl rW rfl hu) (CH_ldP (c:=u.v) rfl rfl (.yes2 rfl rfl h4) hld2 rfl (CH_pur (c:=before.v) rfl rfl (.yes2 rfl rfl h4) (Zk rfl) (CH_pur (c:=.bool (!(Op.bytesLess u.b before.b || u.b == before.b))) rfl rfl (.yes2 rfl rfl h4) (P_str rfl rfl rfl) (CH_pur (c:=.bool (!(Op.bytesLess u.b before.b || u.b == before.b))) rfl rfl .plain (Zl rfl (by rw [h4]; rfl)) (CH_nil (X_bnd (vs:=[.pointer (some ⟨b,0,none⟩),.bool (!(Op.bytesLess u.b before.b || u.b == before.b))]) en64 (.cons rfl (.cons rfl .nil)) .plain rfl h (fun a ha=>wk64 (hb.ext hs02) ha) (fun l e' g' w' hr hs=>endP hr (hs02.trans hs)) (fun y g' w' v hs hR hx' hk=>?_))))))));obtain ⟨u2,hu2,hk⟩:=bsome hk;exact Zb ⟨rfl,rfl,rfl,g',hs02.trans hs,u2,hu2,hk⟩
   ·obtain rfl := sinj hcc
    refine CH_skip rfl (.no2 rfl rfl h4 rfl) (CH_skip rfl (.no2 rfl rfl h4 rfl) (CH_skip rfl (.no2 rfl rfl h4 rfl) (CH_skip rfl (.no2 rfl rfl h4 rfl) (CH_skip rfl (.no2 rfl rfl h4 rfl) (CH_pur (c:=.bool false) rfl rfl .plain (Zl rfl (by rw [h4]; rfl)) (CH_nil (X_bnd (vs:=[.pointer (some ⟨b,0,none⟩),.bool false]) en64 (.cons rfl (.cons rfl .nil)) .plain rfl h (fun a ha=>wk64 (hb.ext hs02) ha) (fun l e' g' w' hr hs=>endP hr (hs02.trans hs)) (fun y g' w' v hs hR hx' hk=>?_))))))));obtain ⟨_,hf⟩:=hR
    cases hf
  ·obtain rfl := sinj hcc
   refine E_drawC (g:=gI) (n:=19) [0,1,2,3,4,5,6,7,8,9,11,12,13,14,15,16,17,18] [1] [0,1,2,3,4,5,6,7,8,9,10,11,12,13,14,15,16,17,18] rfl mixedR (by kernel_rfl) fun wc hx hlt=>(CH_pur (c:=.pointer (some ⟨b,0,none⟩)) rfl rfl .plain (Zk rfl) (CH_pur (c:=.pointer (some ⟨b,0,none⟩)) rfl rfl .plain (P_nilCheck rfl) (CH_pur (c:=.pointer (some ⟨b,0,none⟩)) rfl rfl .plain (P_fa at_144_0 rfl) (CH_pur (c:=vW) rfl rfl .plain (Zk rfl) (CH_pur (c:=Iz (ws.length:Int)) rfl rfl .plain (P_len Tryz.underlying104 rfl rW) (CH_pur (c:=.bool (decide ((ws.length:Int) ≥ 3))) rfl rfl .plain (P_int rfl rfl rfl) (CH_pur (c:=.bool (decide ((ws.length:Int) ≥ 3))) rfl rfl .plain (Zk rfl) (CH_skip rfl (.no2 rfl rfl h3 rfl) (CH_skip rfl (.no2 rfl rfl h3 rfl) (CH_skip rfl (.no2 rfl rfl h3 rfl) (CH_skip rfl (.no2 rfl rfl h3 rfl) (CH_pur (c:=.bool false) rfl rfl .plain (Zl rfl (by rw [h3]; rfl)) (CH_pur (c:=.bool false) rfl rfl .plain (Zk rfl) (CH_skip rfl (.no2 rfl rfl rfl rfl) (CH_skip rfl (.no2 rfl rfl rfl rfl) (CH_skip rfl (.no2 rfl rfl rfl rfl) ?_))))))))))))))));refine CH_skip rfl (.no2 rfl rfl rfl rfl) (CH_skip rfl (.no2 rfl rfl rfl rfl) (CH_pur (c:=.bool false) rfl rfl .plain (Zl rfl rfl) (CH_nil (X_bnd (vs:=[.pointer (some ⟨b,0,none⟩),.bool false]) en64 (.cons rfl (.cons rfl .nil)) .plain rfl h (fun a ha=>wk64 (hb.ext hx) ha) (fun l e' g' w' hr hs=>endP hr (hx.trans hs)) (fun y g' w' v hs hR hx' hk=>?_)))));obtain ⟨_,hf⟩:=hR
   cases hf
 rintro e ds w1 ⟨rfl,e0,e1,g1,hs1,u,hu,h⟩;have hb1:=hb.ext hs1;have rW1:=rW.ext hs1;refine E_cut (fun e ds w'=>ds=[]∧e 0=.pointer (some ⟨b,0,none⟩)∧∃ g' hk,Ext gI wI g' w'∧e 7=Iz hk∧((f100 1 24 [hk]).bind fun c2=>bnd (f64 y c2) fun _=>some (.ok hk))=some r) ?_ ?_
 ·refine Zs (x := .tmp 32) Tryz.isAgg9 Tryz.sizeOf9 (PT_idx rW1 hu) fun vc rc hld => ?_
  obtain rfl:=RV_str.1 rc;refine E_drawC (g:=g1) (n:=6) [0,1,2,3,4,5] [1] [0,1,2,3,4,5] rfl mixedR (by kernel_rfl) fun wc hx hlt=>(CH_pur (c:=.pointer (some ⟨b,0,none⟩)) rfl rfl .plain (Zk e0) (CH_pur (c:=.pointer (some ⟨b,0,none⟩)) rfl rfl .plain (P_nilCheck rfl) (CH_pur (c:=.pointer (some ⟨b,0,none⟩)) rfl rfl .plain (P_fa at_144_0 rfl) (CH_pur (c:=vW) rfl rfl .plain (Zk e1) (CH_pur (c:=ePtr vW 2 1) rfl rfl .plain (Zh (α:=Str) Tryz.underlying104 Tryz.sizeOf9 rfl rW1 rfl hu) (CH_ldP (c:=u.v) rfl rfl .plain hld rfl (CH_nil (X_bnd (vs:=[.pointer (some ⟨b,0,none⟩),u.v]) en124 (.cons rfl (.cons rfl .nil)) .plain rfl h (fun a ha=>wk124 (hT.ch (hs1.ch.trans hx.ch)) (hb1.ext hx) ha) (fun l e' g' w' hr hs=>endP hr (hs1.trans (hx.trans hs))) (fun k g' w' v hs hR hx' hk=>?_)))))))));obtain rfl:=hR;refine Zg (Iz k) rfl rfl ?_;exact Zb ⟨rfl,e0,g',k,hs1.trans (hx.trans hs),rfl,hk⟩
 rintro e ds w2 ⟨rfl,e0,g2,k,hs2,e7,h⟩;obtain ⟨c2,hc2,h⟩:=bsome h;have hb2:=hb.ext hs2;refine Zf (E_drawC (g:=g2) (n:=6) [0,1,2,3] [1] [0,1,2,3,4,5] rfl mixedR (by kernel_rfl) fun wc hx hlt=>(CH_pur (c:=.pointer (some ⟨b,0,none⟩)) rfl rfl .plain (Zk e0) (CH_pur (c:=.pointer (some ⟨b,0,none⟩)) rfl rfl .plain (P_nilCheck rfl) (CH_pur (c:=.pointer (some ⟨b,0,none⟩)) rfl rfl .plain (P_fa at_144_0 rfl) (CH_pur (c:=Iz k) rfl rfl .plain (Zk e7) (CH_do rfl rfl .plain (D_buildSlice (g:=g2) 7 (xs:=([k]:List Int)) (vs:=[Iz k]) Tryz.underlying22 Tryz.sizeOf3 Tryz.zeroValue3 rfl rfl (.cons rfl .nil) (RVs.cons (Zj.2 rfl) RVs.nil) rfl rfl fun g3 w3 v3 _ _ r3 hx3 _=>?_)))))));have hlt:=hlt.ext hx3;refine ⟨hlt.toW,?_⟩;refine CH_do rfl rfl .plain (Zp (g:=g3) (vs:=[Iz 1,Iz 24,v3]) en100 (.cons rfl (.cons rfl (.cons rfl .nil))) (wk100 r3 hc2) fun g4 w4 v hs4 hv=>?_);subst hv;refine ⟨(hlt.ext hs4).toW,?_⟩;refine CH_nil ?_;have hs24:=hx.trans (hx3.trans hs4);refine X_bnd (vs:=[.pointer (some ⟨b,0,none⟩),.bool c2]) en64 (.cons rfl (.cons rfl .nil)) .plain rfl h (fun a ha=>wk64 (hb2.ext hs24) ha) (fun l e' g' w' hr hs=>endP hr (hs2.trans (hs24.trans hs))) (fun z g' w' v hs hR hx' hk=>?_);obtain rfl:=sinj hk;refine EL_nt (E_sr (Zo e7 rfl (Zg (Iz k) rfl rfl (EL_nt (E_ret ?_)))));exact end1 rfl rfl rfl ⟨g',hs2.trans (hs24.trans hs),_,rfl,rfl⟩
end

section
variable {gI:Gh} {wI:World} {b:Nat} {x:BookMiller}
def f82c (x:BookReader) (n1 n2:Int):Option Bool:=bif n1 != w64 (x.line - 1) then some true else (f126 x).bind fun s=>(f70 s).bind fun m=>some (n2 != m)
def f82r (x:BookReader) (n1 n2:Int):Option (PR Unit):=
 bif !(x.rest.b == []) then bnd (f61 ⟨x.text,x.rest,w64 (x.line + 1)⟩ 4) fun _=>none
 else (f82c x n1 n2).bind fun c=>bif c then bnd (f61 x 130) fun _=>none else some (.ok ())
def f82 (x:BookMiller) (ws:List Str):Option (PR Unit):=
 bnd (f125 x) fun _=>bnd (f64 x.reader ((ws.length:Int) == 3)) fun _=>(idx ws 1).bind fun u1=>(idx ws 2).bind fun u2=>
  bnd (f124 x.reader u1) fun n1=>bnd (f124 x.reader u2) fun n2=>f82r x.reader n1 n2
theorem en82:Enters Tryz.prog 82:=enters_of Tryz.func82 (by kernel_rfl) rfl
theorem wk82 (hT:TabR gI.m wI) (hm:MB gI wI b x) {ws:List Str} {vW:Value} (rW:RV gI.m wI ws vW) {r:PR Unit} (h:f82 x ws=some r):FnS (Stp 1 gI wI) Tryz.prog 82 #[.pointer (some ⟨b,0,none⟩),vW] wI (okR r fun _ g w v=>v=.tuple #[]∧Ext gI wI g w) (pnR 177 r):=by
 obtain ⟨vT,vC,hb⟩:∃ vT vC,RB gI wI b 144 x.reader [vT,vC]:=let ⟨vT,vC,_,h1,_⟩:=hm; ⟨vT,vC,h1⟩;refine fnS_of_E Tryz.func82 rfl (Nat.le_of_ble_eq_true rfl) ?_;show E _ 69 none _ _ _ _ _;refine E_sr (Zn (.pointer (some ⟨b,0,none⟩)) rfl rfl (X_bnd (vs:=[.pointer (some ⟨b,0,none⟩)]) en125 (.cons rfl .nil) .plain rfl h (fun a ha=>wk125 hm ha) (fun l e' g' w' hr hs=>endP hr (hs.stp)) (fun y g1 w1 v hs1 hR hx1 h=>?_)));have hb1:=hb.ext hs1;have rW1:=rW.ext hs1;refine EL_nt (E_sr (Zn (.pointer (some ⟨b,0,none⟩)) rfl rfl (EL_p (.pointer (some ⟨b,0,none⟩)) (P_nilCheck rfl) rfl (EL_p (.pointer (some ⟨b,0,none⟩)) (P_fa at_144_0 rfl) rfl (Zn (vW) rfl rfl (EL_p (Iz (ws.length:Int)) (P_len Tryz.underlying104 rfl rW1) rfl (EL_in (.bool ((ws.length:Int) == 3)) rfl rfl rfl rfl (X_bnd (vs:=[.pointer (some ⟨b,0,none⟩),.bool ((ws.length:Int) == 3)]) en64 (.cons rfl (.cons rfl .nil)) .plain rfl h (fun a ha=>wk64 hb1 ha) (fun l e' g' w' hr hs=>endP hr ((hs1.trans hs).stp)) (fun y g2 w2 v hs2 hR hx2 h=>?_)))))))));have hb2:=hb1.ext hs2;have rW2:=rW1.ext hs2;have hs12:=hs1.trans hs2;obtain ⟨u1,hu1,h⟩:=bsome h;obtain ⟨u2,hu2,h⟩:=bsome h;refine EL_nt (Zf (Zs (x:=.tmp 19) Tryz.isAgg9 Tryz.sizeOf9 (PT_idx rW2 hu1) fun vc rc hld1=>?_));obtain rfl:=RV_str.1 rc;refine Zs (x:=.tmp 26) Tryz.isAgg9 Tryz.sizeOf9 (PT_idx rW2 hu2) fun vc rc2 hld2=>?_;obtain rfl:=RV_str.1 rc2;refine E_drawX (g:=g2) (n:=14) (OutP (Stp 1 gI wI) (pnR 177 r)) [0,1,2,3,4,5,7,8,9,10,11,12] [1] [6,13] [0,1,2,3,4,5,7,8,9,10,11,12,6,13] mixedR (by kernel_rfl) (fun c e w h=>⟨rfl,h⟩) fun wc hx hlt=>(CX_pur (c:=.pointer (some ⟨b,0,none⟩)) rfl rfl rfl .plain (Zk rfl) (CX_pur (c:=.pointer (some ⟨b,0,none⟩)) rfl rfl rfl .plain (P_nilCheck rfl) (CX_pur (c:=.pointer (some ⟨b,0,none⟩)) rfl rfl rfl .plain (P_fa at_144_0 rfl) (CX_pur (c:=vW) rfl rfl rfl .plain (Zk rfl) (CX_pur (c:=ePtr vW 1 1) rfl rfl rfl .plain (Zh (α:=Str) Tryz.underlying104 Tryz.sizeOf9 rfl rW2 rfl hu1) (CX_ldP (c:=u1.v) rfl rfl rfl .plain hld1 rfl (CX_pur (c:=.pointer (some ⟨b,0,none⟩)) rfl rfl rfl .plain (Zk rfl) (CX_pur (c:=.pointer (some ⟨b,0,none⟩)) rfl rfl rfl .plain (P_nilCheck rfl) (CX_pur (c:=.pointer (some ⟨b,0,none⟩)) rfl rfl rfl .plain (P_fa at_144_0 rfl) (CX_pur (c:=vW) rfl rfl rfl .plain (Zk rfl) (CX_pur (c:=ePtr vW 2 1) rfl rfl rfl .plain (Zh (α:=Str) Tryz.underlying104 Tryz.sizeOf9 rfl rW2 rfl hu2) (CX_ldP (c:=u2.v) rfl rfl rfl .plain hld2 rfl (CX_bnd (vs:=[.pointer (some ⟨b,0,none⟩),u1.v]) rfl rfl .plain en124 (.cons rfl (.cons rfl .nil)) h (fun a ha=>wk124 (hT.ch (hs12.ch.trans hx.ch)) (hb2.ext hx) ha) (fun l e' g' w' hr hs=>⟨⟨l,e',hr,rfl⟩,g',(hs12.trans (hx.trans hs)).stp⟩) (fun n1 g3 w3 v hs3 hR hx3 h=>?_))))))))))))));obtain rfl:=hR;have hlt:=hlt.ext hs3;refine ⟨hlt.toW,?_⟩;have hx3:=hx.trans hs3;refine CX_bnd (vs:=[.pointer (some ⟨b,0,none⟩),u2.v]) rfl rfl .plain en124 (.cons rfl (.cons rfl .nil)) h (fun a ha=>wk124 (hT.ch (hs12.ch.trans hx3.ch)) (hb2.ext hx3) ha) (fun l e' g' w' hr hs=>⟨⟨l,e',hr,rfl⟩,g',(hs12.trans (hx3.trans hs)).stp⟩) (fun n2 g4 w4 v hs4 hR hx4 h=>?_);obtain rfl:=hR;refine ⟨(hlt.ext hs4).toW,?_⟩;refine CX_nil ?_;have hs4:=hs12.trans (hx3.trans hs4);have hb4:=hb.ext hs4;refine Zg (Iz n1) rfl rfl (Zg (Iz n2) rfl rfl (EL_nt (Zf (E_sr ?_))));unfold f82r at h;refine Zn (.pointer (some ⟨b,0,none⟩)) rfl rfl (EL_p (.pointer (some ⟨b,0,none⟩)) (P_nilCheck rfl) rfl (EL_p (.pointer (some ⟨b,0,none⟩)) (P_fa at_144_0 rfl) rfl (EL_p (.pointer (some ⟨b,1,none⟩)) (P_fa at_119_1 rfl) rfl (EL_d0 rfl (D_load1 Tryz.isAgg9 rfl (hb4.cell.trans rfl) (EL_p (.bool (!(x.reader.rest.b == []))) (P_str (a:=x.reader.rest) (b:=⟨[]⟩) rfl rfl rfl) rfl (EL_nt ?_)))))));rcases Zt h with ⟨hc,h⟩ | ⟨hc,h⟩
 ·refine E_ct hc rfl (E_sr (Zn (.pointer (some ⟨b, 0, none⟩)) rfl rfl (EL_p (.pointer (some ⟨b, 0, none⟩)) (P_nilCheck rfl) rfl (EL_p (.pointer (some ⟨b, 0, none⟩)) (P_fa at_144_0 rfl) rfl (EL_p (.pointer (some ⟨b, 2, none⟩)) (P_fa at_119_2 rfl) rfl (EL_d0 rfl (D_load1 Tryz.isAgg3 rfl (hb4.cell.trans rfl) (EL_in (Iz (w64 (x.reader.line + 1))) rfl rfl rfl rfl (EL_p (.pointer (some ⟨b, 0, none⟩)) (P_nilCheck rfl) rfl (EL_p (.pointer (some ⟨b, 0, none⟩)) (P_fa at_144_0 rfl) rfl (EL_p (.pointer (some ⟨b, 2, none⟩)) (P_fa at_119_2 rfl) rfl (EL_d0 rfl (D_store1 (c := Iz (w64 (x.reader.line + 1))) Tryz.sizeOf3 rfl rfl rfl (by simp) hb4 fun w5 hs5 hb5 _ => ?_)))))))))))))
  have hb5:RB g4 w5 b 144 ⟨x.reader.text,x.reader.rest,w64 (x.reader.line + 1)⟩ [vT,vC]:=hb5;refine EL_nt (Za (Zn (.pointer (some ⟨b,0,none⟩)) rfl rfl (EL_p (.pointer (some ⟨b,0,none⟩)) (P_nilCheck rfl) rfl (EL_p (.pointer (some ⟨b,0,none⟩)) (P_fa at_144_0 rfl) rfl (X_bnd (vs:=[.pointer (some ⟨b,0,none⟩),Iz 4]) en61 (.cons rfl (.cons rfl .nil)) .plain rfl h (fun a ha=>wk61 hb5 ha) (fun l e' g' w' hr hs=>endP hr (hs4.stp.trans (hs5.trans hs.stp))) (fun y g' w' v hs hR hx h=>by cases hx))))))
 refine E_cf hc rfl (Zu (Zd ?_));obtain ⟨c,hcc,h⟩:=bsome h;refine E_cut (fun e ds w'=>ds=[]∧e 0=.pointer (some ⟨b,0,none⟩)∧e 64=.bool c∧∃ g',Ext gI wI g' w') (Za ?_) ?_
 ·refine Zn (Iz n1) rfl rfl (Zn (.pointer (some ⟨b, 0, none⟩)) rfl rfl (EL_p (.pointer (some ⟨b, 0, none⟩)) (P_nilCheck rfl) rfl (EL_p (.pointer (some ⟨b, 0, none⟩)) (P_fa at_144_0 rfl) rfl (EL_p (.pointer (some ⟨b, 2, none⟩)) (P_fa at_119_2 rfl) rfl (EL_d0 rfl (D_load1 Tryz.isAgg3 rfl (hb4.cell.trans rfl) (EL_in (Iz (w64 (x.reader.line - 1))) rfl rfl rfl rfl (EL_in (.bool (n1 != w64 (x.reader.line - 1))) rfl rfl rfl rfl (Zn (.bool (n1 != w64 (x.reader.line - 1))) rfl rfl ?_)))))))))
  unfold f82c at hcc;rcases Zt hcc with ⟨h7,hcc⟩ | ⟨h7,hcc⟩
  ·obtain rfl := sinj hcc
   refine EL_s rfl rfl h7 rfl rfl (EL_s rfl rfl h7 rfl rfl (EL_s rfl rfl h7 rfl rfl (EL_s rfl rfl h7 rfl rfl (EL_s rfl rfl h7 rfl rfl (EL_s rfl rfl h7 rfl rfl (EL_s rfl rfl h7 rfl rfl (EL_p (.bool true) (Zl rfl (by rw [h7]; rfl)) rfl ?_)))))));exact Zb ⟨rfl,rfl,rfl,g4,hs4⟩
  ·obtain ⟨s, hs, hcc⟩ := bsome hcc
   obtain ⟨m,hm2,hcc⟩:=bsome hcc;obtain rfl:=sinj hcc;refine EL_y (Iz n2) (Zk rfl) rfl rfl h7 rfl (EL_y (.pointer (some ⟨b,0,none⟩)) (Zk rfl) rfl rfl h7 rfl (EL_y (.pointer (some ⟨b,0,none⟩)) (P_nilCheck rfl) rfl rfl h7 rfl (EL_y (.pointer (some ⟨b,0,none⟩)) (P_fa at_144_0 rfl) rfl rfl h7 rfl (Ze (.yes2 rfl rfl h7) rfl (D_callC (vs:=[.pointer (some ⟨b,0,none⟩)]) (R:=fun v w'=>∃ g',Ext g4 w4 g' w'∧v=s.v) en126 (.cons rfl .nil) (wk126 hb4 hs) fun v w5 hv=>?_)))));obtain ⟨g5,hs5,rfl⟩:=hv;refine Ze (.yes2 rfl rfl h7) rfl (Zp (g:=g5) (vs:=[s.v]) en70 (.cons rfl .nil) (wk70 hm2) fun g6 w6 v hs6 hv=>?_);subst hv;refine EL_y (.bool (n2 != m)) (P_int rfl rfl rfl) rfl rfl h7 rfl (EL_p (.bool (n2 != m)) (Zl rfl (by rw [h7]; rfl)) rfl ?_);exact Zb ⟨rfl,rfl,rfl,g6,hs4.trans (hs5.trans hs6)⟩
 rintro e ds w5 ⟨rfl,e0,e64,g5,hs5⟩;have hb5:=hb.ext hs5;rcases Zt h with ⟨hc,h⟩ | ⟨hc,h⟩
 ·refine E_ct hc e64 (Za (Zo e0 rfl (EL_p (.pointer (some ⟨b,0,none⟩)) (P_nilCheck rfl) rfl (EL_p (.pointer (some ⟨b,0,none⟩)) (P_fa at_144_0 rfl) rfl (X_bnd (vs:=[.pointer (some ⟨b,0,none⟩),Iz 130]) en61 (.cons rfl (.cons rfl .nil)) .plain rfl h (fun a ha=>wk61 hb5 ha) (fun l e' g' w' hr hs=>endP hr ((hs5.trans hs).stp)) (fun y g' w' v hs hR hx h=>by cases hx))))))
 ·refine E_cf hc e64 (Zu ?_)
  obtain rfl:=sinj h;exact end0n rfl rfl ⟨g5,hs5.stp,_,rfl,rfl,hs5⟩
end

section
variable {gI:Gh} {wI:World} {b:Nat} {x:BookMiller}
theorem neq195 {a:Option Addr} (w:World):(binOp .neq 195 (.pointer a) (.pointer none)).run Tryz.prog w=.ok (.bool !a.isNone) w:=run_neq_pointer_nil w 195 a Tryz.underlying195
theorem layR_92:layoutOf Tryz.prog 92=some ([Iz 0,.slice none 0 0],[(0,1),(1,1)]):=by kernel_rfl
theorem layR_94:layoutOf Tryz.prog 94=some ([Str.v ⟨[]⟩,Iz 0,.slice none 0 0],[(0,1),(1,2)]):=by kernel_rfl
theorem infoR_94:(Tryz.prog.info? 94).map (fun i=>(i.zero,i.size,i.bytes))=some (some (.agg #[Str.v ⟨[]⟩,Iz 0,.slice none 0 0]),3,48):=by kernel_rfl
theorem apnd_len {α β:Type} {n:Nat} {xs ys r:List α} {us vs:List β} (h:apnd n xs ys=some r) (h1:us.length=xs.length) (h2:vs.length=ys.length):apnd n us vs=some (us ++ vs)∧r=xs ++ ys:=by
 unfold apnd at h ⊢;rw [h1,h2];split at h
 ·rename_i hc
  injection h with h;exact ⟨by rw [if_pos hc],h.symm⟩
 ·cases h
theorem OA.csz1' {α:Type} [GoT α] {i:Nat} {g:Gh} {w:World} {t:TypeId} {xs:List α} {v:Value} (h:OA i g w t xs v):v.oneCell'=true:=by rcases h with ⟨rfl,_⟩ | ⟨b,c,cs,rfl,_⟩ <;> rfl
theorem MB.push {g : Gh} {w : World} {vT v : Value} {cr : List RawC} {u : Str} {k : Int} (hb : RB g w b 144 x.reader [vT, v]) (h2 : OS 2 g w 108 x.mill.Ties vT) (h3 : RV g.m w x.mill.Ties vT) (h4 : OA 3 g w 94 (cr ++ [(u, k, ⟨.slice none 0 0, rfl⟩)]) v) (h5 : cr.length = x.mill.Chains.length) (h6 : ∀ (i : Nat) (q : RawC) (c : BookChain), cr[i]? = some q → x.mill.Chains[i]? = some c → ChR g w q c) :
  MB g w b ⟨x.reader,⟨x.mill.Ties,x.mill.Chains ++ [⟨u,⟨k,[]⟩⟩]⟩⟩:=by
 refine ⟨vT,v,_,hb,h2,h3,h4,by simp [h5],fun i q c hq hc=>?_,fun q c hq hc=>?_⟩
 ·simp only at hc
  by_cases hi:i < cr.length
  ·rw [List.getElem?_append_left hi] at hq
   rw [List.getElem?_append_left (by omega)] at hc
   exact h6 i q c hq hc
  ·rw [List.getElem?_append_right (by omega)] at hq hc
   rw [h5] at hq
   cases hj:i - x.mill.Chains.length with
   | zero=>
    rw [hj] at hq hc
    simp at hq hc
    subst hq; subst hc
    exact ⟨rfl,rfl,RV_nil⟩
   | succ j=>rw [hj] at hc; simp at hc
 ·simp at hq hc
  subst hq; subst hc
  exact OS.nil
def f80b (x : BookMiller) : Str := match x.mill.Chains.getLast? with
 | none=>⟨[]⟩
 | some c=>c.Name
def f80 (x:BookMiller) (ws:List Str):Option (PR BookMiller):=
 bnd (f125 x) fun _=>bnd (f64 x.reader (bif decide ((x.mill.Chains.length:Int) < 8) then (ws.length:Int) == 3 else false)) fun _=>
  bnd (f123 x.reader ws (f80b x)) fun k=>(idx ws 1).bind fun u=>(apnd 48 x.mill.Chains [⟨u,⟨k,[]⟩⟩]).bind fun cs=>some (.ok ⟨x.reader,⟨x.mill.Ties,cs⟩⟩)
theorem en80:Enters Tryz.prog 80:=enters_of Tryz.func80 (by kernel_rfl) rfl
theorem wk80 (hT:TabR gI.m wI) (hm:MB gI wI b x) {ws:List Str} {vW:Value} (rW:RV gI.m wI ws vW) {r:PR BookMiller} (h:f80 x ws=some r):FnS (StpR gI wI) Tryz.prog 80 #[.pointer (some ⟨b,0,none⟩),vW] wI (okR r fun y g w v=>v=.tuple #[]∧MB g w b y) (pnR 177 r):=by
 refine fnR_of_E Tryz.func80 rfl (Nat.le_of_ble_eq_true rfl) fun hfr=>?_;show E _ 54 none _ _ _ _ _;have hm:=hm.start;have hT:TabR (ghR gI).m wI:=hT;have rW:RV (ghR gI).m wI ws vW:=rW;generalize ghR gI=g0 at *;obtain ⟨vT,vC,hb⟩:∃ vT vC,RB g0 wI b 144 x.reader [vT,vC]:=let ⟨vT,vC,_,h1,_⟩:=hm; ⟨vT,vC,h1⟩;refine E_sr (Zg (Str.v ⟨[]⟩) rfl rfl (EL_nt (E_joinD (fun e ds w'=>ds=[]∧e 0=.pointer (some ⟨b,0,none⟩)∧e 1=vW∧e 4=(f80b x).v∧w'=wI) (fun Q' hQ'=>?_) ?_)))
 ·refine E_sr (Zn (.pointer (some ⟨b, 0, none⟩)) rfl rfl (EL_d0 rfl (D_callC (vs := [.pointer (some ⟨b, 0, none⟩)]) (R := fun v w' => v = lastP vC x.mill.Chains.length ∧ w' = wI) en122 (.cons rfl .nil) (Calls.mono (wk122 hb hm) fun r w' ⟨h1, h2⟩ => ⟨_, h1, rfl, h2⟩) fun v w' hv => ?_)))
  obtain ⟨rfl,rfl⟩:=hv;refine Zg (lastP vC x.mill.Chains.length) rfl rfl (EL_nt (E_sr (Zn (lastP vC x.mill.Chains.length) rfl rfl ?_)))
  cases hc:x.mill.Chains.getLast? with
  | none=>
   rw [MB.nol hm hc];refine EL_p (.bool false) (P_ptreq (u1:=.pointer none) (u2:=.pointer none) (.inr rfl) rfl rfl ⟨_,rfl⟩ ⟨_,rfl⟩ fun w=>neq195 w) rfl (EL_nt (E_cf rfl rfl (Zu ?_)));exact hQ' _ _ _ ⟨rfl,rfl,rfl,by unfold f80b; rw [hc]; rfl,rfl⟩
  | some c=>
   obtain ⟨vT',vC',cr,q,bc,cp,cs,h1,hv,h4,h5,hq,hh,c0,c1,c2,r3,o3,hl,_,_,_⟩:=MB.lastc hm hc;obtain ⟨rfl,rfl⟩:=RB_inj hb h1;rw [hl];refine EL_p (.bool true) (P_ptreq (u1:=.pointer (some ⟨bc,(x.mill.Chains.length - 1) * 3,none⟩)) (u2:=.pointer none) (.inr rfl) rfl rfl ⟨_,rfl⟩ ⟨_,rfl⟩ fun w=>neq195 w) rfl (EL_nt (E_ct rfl rfl (Za (Zn (.pointer (some ⟨bc,(x.mill.Chains.length - 1) * 3,none⟩)) rfl rfl (EL_p (.pointer (some ⟨bc,(x.mill.Chains.length - 1) * 3,none⟩)) (P_nilCheck rfl) rfl (EL_p (.pointer (some ⟨bc,(x.mill.Chains.length - 1) * 3,none⟩)) (P_fa (o:=(x.mill.Chains.length - 1) * 3) at_94_0 rfl) rfl (EL_d0 rfl (D_load1 Tryz.isAgg9 rfl (hh.cell.trans c0) (Zg (c.Name.v) rfl rfl ?_)))))))));exact Zb (hQ' _ _ _ ⟨rfl,rfl,rfl,by unfold f80b; rw [hc]; rfl,rfl⟩)
 rintro e ds w1 ⟨rfl,e0,e1,e4,rfl⟩;refine E_sr (Zo e0 rfl (X_bnd (vs:=[.pointer (some ⟨b,0,none⟩)]) en125 (.cons rfl .nil) .plain rfl h (fun a ha=>wk125 hm ha) (fun l e' g' w' hr hs=>endP hr (hfr.ext hs)) (fun y g1 w1 v hs1 hR hx1 h=>?_)));have hfr:=hfr.ext hs1;have hm:=hm.ext hs1;have rW:=rW.ext hs1;have hT:=hT.ch hs1.ch;have hb:=hb.ext hs1;obtain ⟨vT',vC',cr,h1,h2,h3,h4,h5,h6,h7⟩:=hm;obtain ⟨rfl,rfl⟩:=RB_inj hb h1
 have hsl:∃ a c,vC=.slice a x.mill.Chains.length c:=by
  rcases h4 with ⟨rfl,rfl⟩ | ⟨bc,c,cs,rfl,_⟩
  ·exact ⟨none,0,by rw [← h5]; rfl⟩
  ·exact ⟨_,c,by rw [h5]⟩
 refine EL_nt (E_cut (fun e ds w'=>ds=[]∧e 0=.pointer (some ⟨b,0,none⟩)∧e 1=vW∧e 4=(f80b x).v∧∃ g',Ext g1 w1 g' w'∧(bnd (f123 x.reader ws (f80b x)) fun k=>(idx ws 1).bind fun u=>(apnd 48 x.mill.Chains [⟨u,⟨k,[]⟩⟩]).bind fun cs=>some (.ok ⟨x.reader,⟨x.mill.Ties,cs⟩⟩))=some r) ?_ ?_)
 ·cases h8 : decide ((x.mill.Chains.length : Int) < 8) with
  | true=>
   rw [h8] at h;refine E_drawC (g:=g1) (n:=15) [0,1,2,3,4,5,6,7,8,9,10,11,12,13,14] [1] [0,1,2,3,4,5,6,7,8,9,10,11,12,13,14] rfl mixedR (by kernel_rfl) fun wc hx hlt=>(CH_pur (c:=.pointer (some ⟨b,0,none⟩)) rfl rfl .plain (Zk e0) (CH_pur (c:=.pointer (some ⟨b,0,none⟩)) rfl rfl .plain (P_nilCheck rfl) (CH_pur (c:=.pointer (some ⟨b,0,none⟩)) rfl rfl .plain (P_fa at_144_0 rfl) (CH_pur (c:=.pointer (some ⟨b,0,none⟩)) rfl rfl .plain (Zk e0) (CH_pur (c:=.pointer (some ⟨b,0,none⟩)) rfl rfl .plain (P_nilCheck rfl) (CH_pur (c:=.pointer (some ⟨b,3,none⟩)) rfl rfl .plain (P_fa at_144_1 rfl) (CH_pur (c:=.pointer (some ⟨b,4,none⟩)) rfl rfl .plain (P_fa at_39_1 rfl) (CH_ldO (n:=1) (c:=vC) rfl rfl .plain (L_ldW Tryz.isAgg37 hb rfl _) rfl rfl (CH_pur (c:=Iz (x.mill.Chains.length:Int)) rfl rfl .plain (P_lenH Tryz.underlying37 rfl hsl) (CH_pur (c:=.bool true) rfl rfl .plain (P_int rfl rfl (congrArg (fun z=>some (Value.bool z)) h8)) (CH_pur (c:=.bool true) rfl rfl .plain (Zk rfl) (CH_pur (c:=vW) rfl rfl (.yes2 rfl rfl rfl) (Zk e1) (CH_pur (c:=Iz (ws.length:Int)) rfl rfl (.yes2 rfl rfl rfl) (P_len Tryz.underlying104 rfl rW) (CH_pur (c:=.bool ((ws.length:Int) == 3)) rfl rfl (.yes2 rfl rfl rfl) (P_int rfl rfl rfl) (CH_pur (c:=.bool ((ws.length:Int) == 3)) rfl rfl .plain (Zl rfl rfl) (CH_nil ?_))))))))))))))));refine X_bnd (vs:=[.pointer (some ⟨b,0,none⟩),.bool ((ws.length:Int) == 3)]) en64 (.cons rfl (.cons rfl .nil)) .plain rfl h (fun a ha=>wk64 (hb.ext hx) ha) (fun l e' g' w' hr hs=>endP hr (hfr.ext (hx.trans hs))) (fun y g' w' v hs hR hx' hk=>?_);exact Zb ⟨rfl,e0,e1,e4,g',hx.trans hs,hk⟩
  | false=>
   rw [h8] at h;refine E_drawC (g:=g1) (n:=15) [0,1,2,3,4,5,6,7,8,9,10,11,12,13,14] [1] [0,1,2,3,4,5,6,7,8,9,10,11,12,13,14] rfl mixedR (by kernel_rfl) fun wc hx hlt=>(CH_pur (c:=.pointer (some ⟨b,0,none⟩)) rfl rfl .plain (Zk e0) (CH_pur (c:=.pointer (some ⟨b,0,none⟩)) rfl rfl .plain (P_nilCheck rfl) (CH_pur (c:=.pointer (some ⟨b,0,none⟩)) rfl rfl .plain (P_fa at_144_0 rfl) (CH_pur (c:=.pointer (some ⟨b,0,none⟩)) rfl rfl .plain (Zk e0) (CH_pur (c:=.pointer (some ⟨b,0,none⟩)) rfl rfl .plain (P_nilCheck rfl) (CH_pur (c:=.pointer (some ⟨b,3,none⟩)) rfl rfl .plain (P_fa at_144_1 rfl) (CH_pur (c:=.pointer (some ⟨b,4,none⟩)) rfl rfl .plain (P_fa at_39_1 rfl) (CH_ldO (n:=1) (c:=vC) rfl rfl .plain (L_ldW Tryz.isAgg37 hb rfl _) rfl rfl (CH_pur (c:=Iz (x.mill.Chains.length:Int)) rfl rfl .plain (P_lenH Tryz.underlying37 rfl hsl) (CH_pur (c:=.bool false) rfl rfl .plain (P_int rfl rfl (congrArg (fun z=>some (Value.bool z)) h8)) (CH_pur (c:=.bool false) rfl rfl .plain (Zk rfl) (CH_skip rfl (.no2 rfl rfl rfl rfl) (CH_skip rfl (.no2 rfl rfl rfl rfl) (CH_skip rfl (.no2 rfl rfl rfl rfl) (CH_pur (c:=.bool false) rfl rfl .plain (Zl rfl rfl) (CH_nil ?_))))))))))))))));refine X_bnd (vs:=[.pointer (some ⟨b,0,none⟩),.bool false]) en64 (.cons rfl (.cons rfl .nil)) .plain rfl h (fun a ha=>wk64 (hb.ext hx) ha) (fun l e' g' w' hr hs=>endP hr (hfr.ext (hx.trans hs))) (fun y g' w' v hs hR hx' hk=>?_);obtain ⟨_,hf⟩:=hR
   cases hf
 clear h;rintro e ds w2 ⟨rfl,e0,e1,e4,g2,hs2,h⟩;have hfr:=hfr.ext hs2;have hb:=hb.ext hs2;have rW:=rW.ext hs2;have hT:=hT.ch hs2.ch;refine E_sr (Zo e0 rfl (Zo e1 rfl (Zo e4 rfl (X_bnd (vs:=[.pointer (some ⟨b,0,none⟩),vW,(f80b x).v]) en123 (.cons rfl (.cons rfl (.cons rfl .nil))) .plain rfl h (fun a ha=>wk123 hT hb rW ha) (fun l e' g' w' hr hs=>endP hr (hfr.ext hs)) (fun k g3 w3 v hs3 hR hx3 h=>?_)))));obtain rfl:=hR;have hs23:=hs2.trans hs3;have hfr:=hfr.ext hs3;have hb:=hb.ext hs3;have rW:=rW.ext hs3;obtain ⟨u,hu,h⟩:=bsome h;obtain ⟨cs,hcs,h⟩:=bsome h;obtain rfl:=sinj h;obtain ⟨hap,rfl⟩:=apnd_len (us:=cr) (vs:=[((u,k,⟨.slice none 0 0,rfl⟩):RawC)]) hcs h5 rfl;refine Zg (Iz k) rfl rfl (EL_nt (Zs (x:=.tmp 44) Tryz.isAgg9 Tryz.sizeOf9 (PT_idx rW hu) fun vc rc hld=>?_));obtain rfl:=RV_str.1 rc;refine E_drawC (g:=g3) (n:=14) [0,1,2,3,4,5,6,7,8,9,10,11] [1] [0,1,2,3,4,5,6,7,8,9,10,11,12,13] rfl mixedR (by kernel_rfl) fun wc hx hlt=>(CH_pur (c:=.pointer (some ⟨b,0,none⟩)) rfl rfl .plain (Zk e0) (CH_pur (c:=.pointer (some ⟨b,0,none⟩)) rfl rfl .plain (Zk e0) (CH_pur (c:=.pointer (some ⟨b,0,none⟩)) rfl rfl .plain (P_nilCheck rfl) (CH_pur (c:=.pointer (some ⟨b,3,none⟩)) rfl rfl .plain (P_fa at_144_1 rfl) (CH_pur (c:=.pointer (some ⟨b,4,none⟩)) rfl rfl .plain (P_fa at_39_1 rfl) (CH_ldO (n:=1) (c:=vC) rfl rfl .plain (L_ldW Tryz.isAgg37 hb rfl _) rfl rfl (CH_pur (c:=vW) rfl rfl .plain (Zk e1) (CH_pur (c:=ePtr vW 1 1) rfl rfl .plain (Zh (α:=Str) Tryz.underlying104 Tryz.sizeOf9 rfl rW rfl hu) (CH_ldP (c:=u.v) rfl rfl .plain hld rfl (CH_pur (c:=Iz k) rfl rfl .plain (Zk rfl) (CH_pur (c:=.agg #[Iz k,.slice none 0 0]) rfl rfl .plain (P_build (vs:=[(0,Iz k)]) [[Iz 0],[.slice none 0 0]] layR_92 rfl rfl (.cons rfl .nil) ⟨⟨_,rfl,rfl⟩,trivial⟩) (CH_pur (c:=.agg #[u.v,Iz k,.slice none 0 0]) rfl rfl .plain (P_build (vs:=[(0,u.v),(1,.agg #[Iz k,.slice none 0 0])]) [[Str.v ⟨[]⟩],[Iz 0,.slice none 0 0]] layR_94 rfl rfl (.cons rfl (.cons rfl .nil)) ⟨⟨_,rfl,rfl⟩,⟨⟨_,rfl,rfl⟩,trivial⟩⟩) (CH_do rfl rfl .plain (D_buildSlice (g:=g3) 7 (xs:=([(u,k,⟨.slice none 0 0,rfl⟩)]:List RawC)) (vs:=[.agg #[u.v,Iz k,.slice none 0 0]]) Tryz.underlying37 Tryz.sizeOf94 Tryz.zeroValue94 rfl rfl (.cons rfl .nil) (RVs.cons ⟨[_,_,_],⟨[_],_,rfl,rfl,[_],[_],rfl,rfl,rfl⟩,rfl⟩ RVs.nil) rfl rfl fun g4 w4 v4 _ _ r4 hx4 _=>?_))))))))))))));have hlt:=hlt.ext hx4;refine ⟨hlt.toW,?_⟩;have hx4:=hx.trans hx4;refine CH_do rfl rfl .plain (D_appendA rawC_plain (g:=g4) (i:=3) Tryz.underlying37 infoR_94 rfl rfl ((h4.ext hs23).ext hx4) rfl r4 hap fun g5 w5 v5 hs5 o5=>(⟨(hlt.stp hs5).toW,?_⟩));refine CH_nil (EL_p (.pointer (some ⟨b,0,none⟩)) (P_nilCheck rfl) rfl (EL_p (.pointer (some ⟨b,3,none⟩)) (P_fa at_144_1 rfl) rfl (EL_p (.pointer (some ⟨b,4,none⟩)) (P_fa at_39_1 rfl) rfl (EL_d0 rfl (D_store1 (c:=v5) Tryz.sizeOf37 rfl rfl o5.csz1' (by simp) ((hb.ext hx4).stp hs5 rfl) fun w6 hs6 hb6 _=>?_)))));have hfr:=((hfr.ext hx4).stp hs5).stp hs6;refine Zb (end0n rfl rfl ⟨g5,hfr,_,rfl,rfl,MB.fin (MB.push hb6 ?_ ?_ (o5.stp hs6 rfl) h5 ?_) hfr⟩)
 ·exact ((((h2).ext hs23).ext hx4).stp hs5 rfl).stp hs6 rfl
 ·exact ((((h3).ext hs23).ext hx4).stp hs5).stp hs6
 ·exact fun i q c hq hc=>(h6 i q c hq hc).ch (hs23.ch.trans (hx4.ch.trans (hs5.ch.trans hs6.ch)))
end

section
variable {gI:Gh} {wI:World} {b:Nat} {x:BookMiller}
theorem layR_96:layoutOf Tryz.prog 96=some ([Iz 0,Iz 0,.bool false],[(0,1),(1,1),(2,1)]):=by kernel_rfl
theorem infoR_96:(Tryz.prog.info? 96).map (fun i=>(i.zero,i.size,i.bytes))=some (some (.agg #[Iz 0,Iz 0,.bool false]),3,24):=by kernel_rfl
theorem partR:SubS (α:=RawC) 2 (fun q=>q.2.2) (fun q y=>(q.1,q.2.1,y)):=SubS.comp SubS.snd SubS.snd rfl
theorem rep_card {m:Nat→Nat} {w:World} (c:ChainCard):GoT.rep m w c [Iz c.Number,Iz c.Row,.bool c.Turned]:=⟨[_],_,rfl,rfl,[_],[_],rfl,rfl,rfl⟩
theorem RV_card {m:Nat→Nat} {w:World} (c:ChainCard):RV m w c (.agg #[Iz c.Number,Iz c.Row,.bool c.Turned]):=⟨_,rep_card c,rfl⟩
theorem L_ldS {α : Type} [GoT α] {P : Program} {i b o T : Nat} {t : TypeId} {g : Gh} {w : World} {cs : Array Value} {a : α} {cl : List Value} {Kp : Prop} (ha : ∀ w, (isAgg t).run P w = .ok (GoT.agg α) w) (hs : ∀ w, (sizeOf t).run P w = .ok (GoT.k α) w) (hb : HBm i g w b (.cells cs T (0, 0))) (hr : GoT.rep g.m w a cl) (hc : ∀ j c, cl[j]? = some c → cs[o + j]? = some c)
  (k:∀ v,RV g.m w a v→(∀ (x:Operand) (e:Env) (g':Gh) (w':World),(Ch g.m w g'.m w'∧∀ k,k < w.heap.size→g.o k=i→w'.heap[k]?=w.heap[k]?)→ev e x=.pointer (some ⟨b,o,none⟩)→∀ d ty pos af gd,(execOp (ev e) ⟨d,.load t x,ty,pos,af,gd⟩).run P w'=.ok (.value v) w')→Kp):Kp:=by
 refine k _ ⟨cl,hr,rfl⟩ fun x e g' w' hx he d ty pos af gd=>?_
 have hh:=(hx.2 b hb.lt hb.1).trans hb.2.2
 have l:=loadVar_run (P:=P) (w:=w') (b:=b) (off:=o) ha hs (GoT.mono hx.1 hr) (fun j c hj=>by simpa [World.cell?,hh] using hc j c hj)
 simp [execOp,he,Instr.loadAt,Instr.sureAddr,Result.andThen,l]
theorem rep_of_RV {α:Type} [GoT α] {m:Nat→Nat} {w:World} {xs:List α} {v:Value} (r:RV m w xs v):GoT.rep m w xs [v]:=by
 obtain ⟨cs,⟨a,c,rfl,hc⟩,rfl⟩:=r;exact ⟨a,c,rfl,hc⟩
theorem MB.setl {g : Gh} {w : World} {vT vC v : Value} {hv1 : v.oneCell' = true} {cr : List RawC} {q : RawC} {c : BookChain} {ks : List ChainCard} (hb : RB g w b 144 x.reader [vT, vC]) (h2 : OS 2 g w 108 x.mill.Ties vT) (h3 : RV g.m w x.mill.Ties vT) (h4 : OA 3 g w 94 (cr.set (x.mill.Chains.length - 1) (q.1, q.2.1, ⟨v, hv1⟩)) vC) (h5 : cr.length = x.mill.Chains.length) (h6 : ∀ (i : Nat) (q : RawC) (c : BookChain), cr[i]? = some q → x.mill.Chains[i]? = some c → ChR g w q c)
  (hq:cr[x.mill.Chains.length - 1]?=some q) (hc:x.mill.Chains.getLast?=some c) (o:OS 4 g w 96 ks v) (r:RV g.m w ks v):MB g w b ⟨x.reader,⟨x.mill.Ties,x.mill.Chains.set (x.mill.Chains.length - 1) ⟨c.Name,⟨c.Chain.Hooks,ks⟩⟩⟩⟩:=by
 rw [List.getLast?_eq_getElem?] at hc
 have hlt:x.mill.Chains.length - 1 < x.mill.Chains.length:=(List.getElem?_eq_some_iff.1 hc).1
 obtain ⟨n1,n2,n3⟩:=h6 _ q c hq hc
 refine ⟨vT,vC,_,hb,h2,h3,h4,by simp [h5],fun i q' c' hq' hc'=>?_,fun q' c' hq' hc'=>?_⟩
 ·simp only at hc'
  rw [List.getElem?_set] at hq' hc'
  by_cases hi:x.mill.Chains.length - 1=i
  ·rw [if_pos hi, if_pos (by omega)] at hq'
   rw [if_pos hi,if_pos hlt] at hc'
   injection hq' with hq'; injection hc' with hc'
   subst hq'; subst hc'
   exact ⟨n1,n2,r⟩
  ·rw [if_neg hi] at hq' hc'
   exact h6 i q' c' hq' hc'
 ·simp only at hc'
  rw [List.getLast?_eq_getElem?,List.length_set,List.getElem?_set] at hq' hc'
  rw [if_pos (by omega),if_pos (by omega)] at hq'
  rw [if_pos rfl,if_pos hlt] at hc'
  injection hq' with hq'; injection hc' with hc'
  subst hq'; subst hc'
  exact o
def f81s (x:BookMiller) (c:BookChain) (ws:List Str) (num:Int):Option (PR BookMiller):=
 (idx ws 0).bind fun w0=>(idx ws 2).bind fun w2=>(f63 w2).bind fun rw=>
  bnd (f64 x.reader (bif rw.2 then ((w2.b.length:Int) == c.Chain.Hooks) else false)) fun _=>
  (apnd 24 c.Chain.Cards [⟨num,rw.1,w0.b == [116,117,114,110,101,100]⟩]).bind fun cs=>(f107 ⟨c.Chain.Hooks,cs⟩).bind fun e=>
  bnd (f64 x.reader (e == (0:Int))) fun _=>some (.ok ⟨x.reader,⟨x.mill.Ties,x.mill.Chains.set (x.mill.Chains.length - 1) ⟨c.Name,⟨c.Chain.Hooks,cs⟩⟩⟩⟩)
def f81 (x:BookMiller) (ws:List Str):Option (PR BookMiller):=
 match x.mill.Chains.getLast? with
 | none=>bnd (f64 x.reader false) fun _=>none
 | some c=>bnd (f64 x.reader ((ws.length:Int) == 3)) fun _=>(idx ws 0).bind fun _=>(idx ws 1).bind fun w1=>
  bnd (bif !(w1.b == [63]) then f124 x.reader w1 else some (.ok (-1))) fun num=>f81s x c ws num
theorem en81:Enters Tryz.prog 81:=enters_of Tryz.func81 (by kernel_rfl) rfl
theorem wk81 (hT:TabR gI.m wI) (hm:MB gI wI b x) {ws:List Str} {vW:Value} (rW:RV gI.m wI ws vW) {r:PR BookMiller} (h:f81 x ws=some r):FnS (StpR gI wI) Tryz.prog 81 #[.pointer (some ⟨b,0,none⟩),vW] wI (okR r fun y g w v=>v=.tuple #[]∧MB g w b y) (pnR 177 r):=by
 refine fnR_of_E Tryz.func81 rfl (Nat.le_of_ble_eq_true rfl) fun hfr=>?_;show E _ 86 none _ _ _ _ _;have hm:=hm.start;have hT:TabR (ghR gI).m wI:=hT;have rW:RV (ghR gI).m wI ws vW:=rW;generalize ghR gI=g0 at *;obtain ⟨vT,vC,hb⟩:∃ vT vC,RB g0 wI b 144 x.reader [vT,vC]:=let ⟨vT,vC,_,h1,_⟩:=hm; ⟨vT,vC,h1⟩;refine E_sr (Zn (.pointer (some ⟨b,0,none⟩)) rfl rfl (EL_d0 rfl (D_callC (vs:=[.pointer (some ⟨b,0,none⟩)]) (R:=fun v w'=>v=lastP vC x.mill.Chains.length∧wI=w') en122 (.cons rfl .nil) (Calls.mono (wk122 hb hm) fun r w' ⟨h1,h2⟩=>⟨_,h1,rfl,h2.symm⟩) fun v w' hv=>?_)));obtain ⟨rfl,rfl⟩:=hv;refine Zg (lastP vC x.mill.Chains.length) rfl rfl (EL_nt (E_sr (Zn (.pointer (some ⟨b,0,none⟩)) rfl rfl (EL_p (.pointer (some ⟨b,0,none⟩)) (P_nilCheck rfl) rfl (EL_p (.pointer (some ⟨b,0,none⟩)) (P_fa at_144_0 rfl) rfl (Zn (lastP vC x.mill.Chains.length) rfl rfl ?_))))));unfold f81 at h
 cases hc:x.mill.Chains.getLast? with
 | none=>
  rw [hc] at h;rw [MB.nol hm hc];refine EL_p (.bool false) (P_ptreq (u1:=.pointer none) (u2:=.pointer none) (.inr rfl) rfl rfl ⟨_,rfl⟩ ⟨_,rfl⟩ fun w=>neq195 w) rfl (Zn (.bool false) rfl rfl (EL_s rfl rfl (c':=false) rfl rfl rfl (EL_s rfl rfl (c':=false) rfl rfl rfl (EL_s rfl rfl (c':=false) rfl rfl rfl (EL_p (.bool false) (Zl rfl rfl) rfl (X_bnd (vs:=[.pointer (some ⟨b,0,none⟩),.bool false]) en64 (.cons rfl (.cons rfl .nil)) .plain rfl h (fun a ha=>wk64 hb ha) (fun l e' g' w' hr hs=>endP hr (hfr.ext hs)) (fun y g' w' v hs hR hx' hk=>?_)))))));obtain ⟨_,hf⟩:=hR
  cases hf
 | some c=>
  rw [hc] at h;obtain ⟨vT',vC',cr,q,bc,cp,cs,h1,hv,h4,h5,hq,hh,c0,c1,c2,r3,o3,hl,_,_,_⟩:=MB.lastc hm hc;obtain ⟨rfl,rfl⟩:=RB_inj hb h1;rw [hl];refine EL_p (.bool true) (P_ptreq (u1:=.pointer (some ⟨bc,(x.mill.Chains.length - 1) * 3,none⟩)) (u2:=.pointer none) (.inr rfl) rfl rfl ⟨_,rfl⟩ ⟨_,rfl⟩ fun w=>neq195 w) rfl (Zn (.bool true) rfl rfl (EL_y (vW) (Zk rfl) rfl rfl rfl rfl (EL_y (Iz (ws.length:Int)) (P_len Tryz.underlying104 rfl rW) rfl rfl rfl rfl (EL_y (.bool ((ws.length:Int) == 3)) (P_int rfl rfl rfl) rfl rfl rfl rfl (EL_p (.bool ((ws.length:Int) == 3)) (Zl rfl rfl) rfl (X_bnd (vs:=[.pointer (some ⟨b,0,none⟩),.bool ((ws.length:Int) == 3)]) en64 (.cons rfl (.cons rfl .nil)) .plain rfl h (fun a ha=>wk64 hb ha) (fun l e' g' w' hr hs=>endP hr (hfr.ext hs)) (fun y g1 w1 v hs1 hR hx1 h=>?_)))))));have hfr:=hfr.ext hs1;have rW:=rW.ext hs1;have hT:=hT.ch hs1.ch;have hb:=hb.ext hs1;have hm:=hm.ext hs1;obtain ⟨w0,hw0,h⟩:=bsome h;obtain ⟨u1,hu1,h⟩:=bsome h;refine EL_nt (E_sr (Zn (vW) rfl rfl (EL_p (ePtr vW 0 1) (Zh (α:=Str) Tryz.underlying104 Tryz.sizeOf9 rfl rW rfl hw0) rfl (EL_d0 rfl (D_load (a:=w0) Tryz.isAgg9 Tryz.sizeOf9 rfl (PT_idx rW hw0) fun v rv=>?_)))));obtain rfl:=RV_str.1 rv;refine EL_p (.bool (w0.b == [116,117,114,110,101,100])) (P_str (a:=w0) (b:=⟨[116,117,114,110,101,100]⟩) rfl rfl rfl) rfl (EL_p (.agg #[Iz (-1),Iz 0,.bool (w0.b == [116,117,114,110,101,100])]) (P_build (vs:=[(0,Iz (-1)),(2,.bool (w0.b == [116,117,114,110,101,100]))]) [[Iz 0],[Iz 0],[.bool false]] layR_96 rfl rfl (.cons rfl (.cons rfl .nil)) ⟨⟨_,rfl,rfl⟩,⟨⟨_,rfl,rfl⟩,trivial⟩⟩) rfl (EL_d0 rfl (D_allocX (g:=g1) 5 (⟨0,0,false⟩:ChainCard) Tryz.zeroValue96 (fun m w=>RV_card ⟨0,0,false⟩) fun g2 w2 p5 hs2 b5=>(EL_d0 rfl (D_storeO (g:=g2) (a':=(⟨-1,0,w0.b == [116,117,114,110,101,100]⟩:ChainCard)) Tryz.sizeOf96 rfl b5 rfl (RV_card ⟨-1,0,w0.b == [116,117,114,110,101,100]⟩) fun g3 w3 hs3 b5=>?_)))));have hfr:=(hfr.ext hs2).stp hs3;have rW:=(rW.ext hs2).stp hs3;have hT:=hT.ch (hs2.ch.trans hs3.ch);have hb:RB g3 w3 b 144 x.reader [vT,vC]:=(hb.ext hs2).stp hs3 rfl;have hm:=(hm.ext hs2).stp hs3 rfl;obtain ⟨p5b,hp5⟩:=b5.ptr;refine EL_nt (E_cut (fun e ds w'=>ds=[]∧e 0=.pointer (some ⟨b,0,none⟩)∧e 1=vW∧e 4=.pointer (some ⟨bc,(x.mill.Chains.length - 1) * 3,none⟩)∧e 5=p5∧∃ g' num,FrR gI wI g' w'∧Ch g3.m w3 g'.m w'∧RB g' w' b 144 x.reader [vT,vC]∧MB g' w' b x∧OB 5 g' w' 96 (⟨num,0,w0.b == [116,117,114,110,101,100]⟩:ChainCard) p5∧f81s x c ws num=some r) ?_ ?_)
  ·refine E_sr (Zn (vW) rfl rfl (EL_p (ePtr vW 1 1) (Zh (α := Str) Tryz.underlying104 Tryz.sizeOf9 rfl rW rfl hu1) rfl (EL_d0 rfl (D_load (a := u1) Tryz.isAgg9 Tryz.sizeOf9 rfl (PT_idx rW hu1) fun v rv => ?_))))
   obtain rfl:=RV_str.1 rv;refine EL_p (.bool (!(u1.b == [63]))) (P_str (a:=u1) (b:=⟨[63]⟩) rfl rfl rfl) rfl (EL_nt ?_)
   cases hq3:(!(u1.b == [63])) with
   | true=>
    rw [hq3] at h;refine E_ct rfl rfl (Zs (x:=.tmp 34) Tryz.isAgg9 Tryz.sizeOf9 (PT_idx rW hu1) fun vc rc hld=>?_);obtain rfl:=RV_str.1 rc;refine E_drawC (g:=g3) (n:=6) [0,1,2,3,4,5] [1] [0,1,2,3,4,5] rfl mixedR (by kernel_rfl) fun wc hx hlt=>(CH_pur (c:=.pointer (some ⟨b,0,none⟩)) rfl rfl .plain (Zk rfl) (CH_pur (c:=.pointer (some ⟨b,0,none⟩)) rfl rfl .plain (P_nilCheck rfl) (CH_pur (c:=.pointer (some ⟨b,0,none⟩)) rfl rfl .plain (P_fa at_144_0 rfl) (CH_pur (c:=vW) rfl rfl .plain (Zk rfl) (CH_pur (c:=ePtr vW 1 1) rfl rfl .plain (Zh (α:=Str) Tryz.underlying104 Tryz.sizeOf9 rfl rW rfl hu1) (CH_ldP (c:=u1.v) rfl rfl .plain hld rfl (CH_nil (X_bnd (vs:=[.pointer (some ⟨b,0,none⟩),u1.v]) en124 (.cons rfl (.cons rfl .nil)) .plain rfl h (fun a ha=>wk124 (hT.ch hx.ch) (hb.ext hx) ha) (fun l e' g' w' hr hs=>endP hr (hfr.ext (hx.trans hs))) (fun num g4 w4 v hs4 hR hx4 h=>?_)))))))));obtain rfl:=hR;have hs4:=hx.trans hs4;refine EL_p (fPtr p5 0) (Zc at_96_0 rfl b5.ptr) rfl (EL_d0 rfl (D_storeF (g:=g4) part_ChainCard_0 Tryz.sizeOf3 rfl (b5.ext hs4) rfl (Zj.2 rfl) fun g5 w5 hs5 b5=>?_));exact Zb ⟨rfl,rfl,rfl,rfl,rfl,g5,num,(hfr.ext hs4).stp hs5,hs4.ch.trans hs5.ch,(HBm.ext hb hs4).stp hs5 rfl,(hm.ext hs4).stp hs5 rfl,b5,h⟩
   | false=>
    rw [hq3] at h;refine E_cf rfl rfl (Zu ?_);exact ⟨rfl,rfl,rfl,rfl,rfl,g3,-1,hfr,Ch.refl _ _,hb,hm,b5,h⟩
  clear h hb hm hfr b5;rintro e ds w4 ⟨rfl,e0,e1,e4,e5,g4,num,hfr,hch4,hb,hm,b5,h⟩;have rW:=rW.ch hch4;have hT:=hT.ch hch4;unfold f81s at h;obtain ⟨w0',hw0',h⟩:=bsome h;obtain rfl:=Option.some.inj (hw0.symm.trans hw0');obtain ⟨w2,hw2,h⟩:=bsome h;obtain ⟨rw1,hrw,h⟩:=bsome h;refine E_sr (Zo e1 rfl (EL_p (ePtr vW 2 1) (Zh (α:=Str) Tryz.underlying104 Tryz.sizeOf9 rfl rW rfl hw2) rfl (EL_d0 rfl (D_load (a:=w2) Tryz.isAgg9 Tryz.sizeOf9 rfl (PT_idx rW hw2) fun v rv=>?_))));obtain rfl:=RV_str.1 rv;refine EL_d0 rfl (Zp (g:=g4) (vs:=[w2.v]) en63 (.cons rfl .nil) (wk63 hrw) fun g5 w5 v hs5 hv=>?_);obtain ⟨_,_,rfl,rfl,rfl⟩:=hv;refine Zn (.tuple #[Iz rw1.1,.bool rw1.2]) rfl rfl (EL_p (Iz rw1.1) (Zi rfl rfl) rfl (EL_p (.bool rw1.2) (Zi rfl rfl) rfl (Zg (Iz rw1.1) rfl rfl (Zg (.bool rw1.2) rfl rfl ?_))));have hfr:=hfr.ext hs5;have rW:=rW.ext hs5;have hT:=hT.ch hs5.ch;have hm:=hm.ext hs5;have hb:=HBm.ext hb hs5;have b5:=b5.ext hs5;refine EL_nt (E_sr (Zn (Iz rw1.1) rfl rfl (EL_p (fPtr p5 1) (Zc at_96_1 e5 b5.ptr) rfl (EL_d0 rfl (D_storeF (g:=g5) part_ChainCard_1 Tryz.sizeOf3 rfl b5 rfl (Zj.2 rfl) fun g6 w6 hs6 b5=>?_)))));have hfr:=hfr.stp hs6;have rW:=rW.stp hs6;have hT:=hT.ch hs6.ch;have hm:=hm.stp hs6 rfl;have hb:RB g6 w6 b 144 x.reader [vT,vC]:=HBm.stp hb hs6 rfl;refine EL_nt ?_;obtain ⟨vT',vC',cr,q,bc',cp',cs,h1,hv',h4,h5,hq,hh,c0,c1,c2,r3,o3,hl,h2,h3,h6⟩:=MB.lastc hm hc;obtain ⟨rfl,rfl⟩:=RB_inj hb h1
  obtain rfl:bc=bc':=by rw [hv] at hv'; injection hv' with hv'; injection hv' with hv'; injection hv' with hv'
  clear hv' h1 hm;refine E_cut (fun e ds w'=>ds=[]∧e 0=.pointer (some ⟨b,0,none⟩)∧e 4=.pointer (some ⟨bc,(x.mill.Chains.length - 1) * 3,none⟩)∧e 5=p5∧∃ g',Ext g6 w6 g' w'∧((apnd 24 c.Chain.Cards [⟨num,rw1.1,w0.b == [116,117,114,110,101,100]⟩]).bind fun cs=>(f107 ⟨c.Chain.Hooks,cs⟩).bind fun e=>bnd (f64 x.reader (e == (0:Int))) fun _=>some (.ok ⟨x.reader,⟨x.mill.Ties,x.mill.Chains.set (x.mill.Chains.length - 1) ⟨c.Name,⟨c.Chain.Hooks,cs⟩⟩⟩⟩))=some r) ?_ ?_
  ·refine Zs (x := .tmp 53) Tryz.isAgg9 Tryz.sizeOf9 (PT_idx rW hw2) fun vc rc hld => ?_
   obtain rfl:=RV_str.1 rc
   cases hr2:rw1.2 with
   | true=>
    rw [hr2] at h;refine E_drawC (g:=g6) (n:=16) [0,1,2,3,4,5,6,7,8,9,10,11,12,13,14,15] [1,3] [0,1,2,3,4,5,6,7,8,9,10,11,12,13,14,15] rfl mixedR (by kernel_rfl) fun wc hx hlt=>(CH_pur (c:=.pointer (some ⟨b,0,none⟩)) rfl rfl .plain (Zk e0) (CH_pur (c:=.pointer (some ⟨b,0,none⟩)) rfl rfl .plain (P_nilCheck rfl) (CH_pur (c:=.pointer (some ⟨b,0,none⟩)) rfl rfl .plain (P_fa at_144_0 rfl) (CH_pur (c:=.bool true) rfl rfl .plain (Zk rfl) (CH_pur (c:=.bool true) rfl rfl .plain (Zk rfl) (CH_pur (c:=vW) rfl rfl (.yes2 rfl rfl rfl) (Zk e1) (CH_pur (c:=ePtr vW 2 1) rfl rfl (.yes2 rfl rfl rfl) (Zh (α:=Str) Tryz.underlying104 Tryz.sizeOf9 rfl rW rfl hw2) (CH_ldP (c:=w2.v) rfl rfl (.yes2 rfl rfl rfl) hld rfl (CH_pur (c:=Iz (w2.b.length:Int)) rfl rfl (.yes2 rfl rfl rfl) (P_lenS Tryz.underlying9 rfl) (CH_pur (c:=.pointer (some ⟨bc,(x.mill.Chains.length - 1) * 3,none⟩)) rfl rfl (.yes2 rfl rfl rfl) (Zk e4) (CH_pur (c:=.pointer (some ⟨bc,(x.mill.Chains.length - 1) * 3,none⟩)) rfl rfl (.yes2 rfl rfl rfl) (P_nilCheck rfl) (CH_pur (c:=.pointer (some ⟨bc,(x.mill.Chains.length - 1) * 3 + 1,none⟩)) rfl rfl (.yes2 rfl rfl rfl) (P_fa (o:=(x.mill.Chains.length - 1) * 3) at_94_1 rfl) (CH_pur (c:=.pointer (some ⟨bc,(x.mill.Chains.length - 1) * 3 + 1,none⟩)) rfl rfl (.yes2 rfl rfl rfl) (P_fa (o:=(x.mill.Chains.length - 1) * 3 + 1) at_92_0 rfl) (CH_ldO (n:=3) (c:=Iz c.Chain.Hooks) rfl rfl (.yes2 rfl rfl rfl) (L_ldW Tryz.isAgg3 hh c1 _) rfl rfl (CH_pur (c:=.bool ((w2.b.length:Int) == c.Chain.Hooks)) rfl rfl (.yes2 rfl rfl rfl) (P_int rfl rfl rfl) (CH_pur (c:=.bool ((w2.b.length:Int) == c.Chain.Hooks)) rfl rfl .plain (Zl rfl rfl) ?_))))))))))))))));refine CH_nil (X_bnd (vs:=[.pointer (some ⟨b,0,none⟩),.bool ((w2.b.length:Int) == c.Chain.Hooks)]) en64 (.cons rfl (.cons rfl .nil)) .plain rfl h (fun a ha=>wk64 (HBm.ext hb hx) ha) (fun l e' g' w' hr hs=>endP hr (hfr.ext (hx.trans hs))) (fun y g' w' v hs hR hx' hk=>?_));exact Zb ⟨rfl,e0,e4,e5,g',hx.trans hs,hk⟩
   | false=>
    rw [hr2] at h;refine E_drawC (g:=g6) (n:=16) [0,1,2,3,4,5,6,7,8,9,10,11,12,13,14,15] [1,3] [0,1,2,3,4,5,6,7,8,9,10,11,12,13,14,15] rfl mixedR (by kernel_rfl) fun wc hx hlt=>(CH_pur (c:=.pointer (some ⟨b,0,none⟩)) rfl rfl .plain (Zk e0) (CH_pur (c:=.pointer (some ⟨b,0,none⟩)) rfl rfl .plain (P_nilCheck rfl) (CH_pur (c:=.pointer (some ⟨b,0,none⟩)) rfl rfl .plain (P_fa at_144_0 rfl) (CH_pur (c:=.bool false) rfl rfl .plain (Zk rfl) (CH_pur (c:=.bool false) rfl rfl .plain (Zk rfl) (CH_skip rfl (.no2 rfl rfl rfl rfl) (CH_skip rfl (.no2 rfl rfl rfl rfl) (CH_skip rfl (.no2 rfl rfl rfl rfl) (CH_skip rfl (.no2 rfl rfl rfl rfl) (CH_skip rfl (.no2 rfl rfl rfl rfl) (CH_skip rfl (.no2 rfl rfl rfl rfl) (CH_skip rfl (.no2 rfl rfl rfl rfl) (CH_skip rfl (.no2 rfl rfl rfl rfl) (CH_skip rfl (.no2 rfl rfl rfl rfl) (CH_skip rfl (.no2 rfl rfl rfl rfl) (CH_pur (c:=.bool false) rfl rfl .plain (Zl rfl rfl) ?_))))))))))))))));refine CH_nil (X_bnd (vs:=[.pointer (some ⟨b,0,none⟩),.bool false]) en64 (.cons rfl (.cons rfl .nil)) .plain rfl h (fun a ha=>wk64 (HBm.ext hb hx) ha) (fun l e' g' w' hr hs=>endP hr (hfr.ext (hx.trans hs))) (fun y g' w' v hs hR hx' hk=>?_));obtain ⟨_,hf⟩:=hR
    cases hf
  clear h;rintro e ds w7 ⟨rfl,e0,e4,e5,g7,hs7,h⟩;obtain ⟨ks,hks,h⟩:=bsome h;obtain ⟨er,her,h⟩:=bsome h;have hfr:=hfr.ext hs7;have hb:RB g7 w7 b 144 x.reader [vT,vC]:=HBm.ext hb hs7;have b5:=b5.ext hs7;have h4:=h4.ext hs7;have hh:=hh.ext hs7;have r3:=r3.ext hs7;have o3:=o3.ext hs7;have h2:=h2.ext hs7;have h3:=h3.ext hs7;have h6:∀ (i:Nat) (q:RawC) (c:BookChain),cr[i]?=some q→x.mill.Chains[i]?=some c→ChR g7 w7 q c:=fun i q c a b=>(h6 i q c a b).ch hs7.ch
  have hp2:(.pointer (some ⟨bc,(x.mill.Chains.length - 1) * 3 + 2,none⟩):Value)=fPtr (ePtr vC ((x.mill.Chains.length - 1:Nat):Int) (GoT.k RawC)) 2:=by
   rw [hv]; simp [ePtr,fPtr,show GoT.k RawC=3 from rfl]
  refine Zf (L_loadO0 (x:=.tmp 5) Tryz.isAgg96 Tryz.sizeOf96 b5 fun v6 r6 hl6=>(E_drawC (g:=g7) (n:=9) [0,1,2,3,4,5,6] [3,5] [0,1,2,3,4,5,6,7,8] rfl mixedR (by kernel_rfl) fun wc hx hlt=>(CH_pur (c:=.pointer (some ⟨bc,(x.mill.Chains.length - 1) * 3,none⟩)) rfl rfl .plain (Zk e4) (CH_pur (c:=.pointer (some ⟨bc,(x.mill.Chains.length - 1) * 3,none⟩)) rfl rfl .plain (Zk e4) (CH_pur (c:=.pointer (some ⟨bc,(x.mill.Chains.length - 1) * 3,none⟩)) rfl rfl .plain (P_nilCheck rfl) (CH_pur (c:=.pointer (some ⟨bc,(x.mill.Chains.length - 1) * 3 + 1,none⟩)) rfl rfl .plain (P_fa (o:=(x.mill.Chains.length - 1) * 3) at_94_1 rfl) (CH_pur (c:=.pointer (some ⟨bc,(x.mill.Chains.length - 1) * 3 + 2,none⟩)) rfl rfl .plain (P_fa (o:=(x.mill.Chains.length - 1) * 3 + 1) at_92_1 rfl) (CH_ldO (n:=3) (c:=q.2.2.v) rfl rfl .plain (L_ldW Tryz.isAgg90 hh c2 _) rfl rfl (CH_ldO (n:=5) (c:=v6) rfl rfl .plain hl6 e5 rfl (CH_do rfl rfl .plain (D_buildSlice (g:=g7) 7 (xs:=([⟨num,rw1.1,w0.b == [116,117,114,110,101,100]⟩]:List ChainCard)) (vs:=[v6]) Tryz.underlying90 Tryz.sizeOf96 Tryz.zeroValue96 rfl rfl (.cons rfl .nil) (RVs.cons (r6.ext hx) RVs.nil) rfl rfl fun g8 w8 v8 _ _ r8 hx8 _=>?_)))))))))));have hlt:=hlt.ext hx8;refine ⟨hlt.toW,?_⟩;have hx8:=hx.trans hx8;refine CH_do rfl rfl .plain (D_append (g:=g8) (i:=4) Tryz.underlying90 infoR_96 rfl rfl (o3.ext hx8) (r3.ext hx8) rfl r8 hks fun g9 w9 v9 hs9 o9 r9 _=>(⟨(hlt.stp hs9).toW,?_⟩));refine CH_nil (EL_p (.pointer (some ⟨bc,(x.mill.Chains.length - 1) * 3,none⟩)) (P_nilCheck rfl) rfl (EL_p (.pointer (some ⟨bc,(x.mill.Chains.length - 1) * 3 + 1,none⟩)) (P_fa (o:=(x.mill.Chains.length - 1) * 3) at_94_1 rfl) rfl (EL_p (.pointer (some ⟨bc,(x.mill.Chains.length - 1) * 3 + 2,none⟩)) (P_fa (o:=(x.mill.Chains.length - 1) * 3 + 1) at_92_1 rfl) rfl ?_)))
  have hv91:v9.oneCell'=true:=by obtain ⟨_,_,rfl,_⟩:=RV_list r9; rfl
  have hidx:idx cr ((x.mill.Chains.length - 1:Nat):Int)=some q:=by simp [idx,hq]
  refine EL_d0 rfl (D_storeAF (g:=g9) (n:=3) (y0:=(⟨v9,hv91⟩:Fv)) partR Tryz.sizeOf90 hp2 ((h4.ext hx8).stp hs9 rfl) hidx rfl (RV_fv.2 rfl) fun g10 w10 hs10 o10=>?_);rw [Int.toNat_natCast] at o10;have hfr:=((hfr.ext hx8).stp hs9).stp hs10;have hb:RB g10 w10 b 144 x.reader [vT,vC]:=((HBm.ext hb hx8).stp hs9 rfl).stp hs10 rfl;have h2:=((h2.ext hx8).stp hs9 rfl).stp hs10 rfl;have h3:=((h3.ext hx8).stp hs9).stp hs10;have o9:=o9.stp hs10 rfl;have r9:=r9.stp hs10;have h6:∀ (i:Nat) (q:RawC) (c:BookChain),cr[i]?=some q→x.mill.Chains[i]?=some c→ChR g10 w10 q c:=fun i q c a b=>(h6 i q c a b).ch (hx8.ch.trans (hs9.ch.trans hs10.ch));have hlt1:x.mill.Chains.length - 1 < cr.length:=(List.getElem?_eq_some_iff.1 hq).1;obtain ⟨bc2,cp2,hv2,cs2,hh2,d0,d1,d2⟩:=oa_cell o10 (i:=x.mill.Chains.length - 1) (q:=(q.1,q.2.1,⟨v9,hv91⟩)) (by rw [List.getElem?_set_self hlt1])
  obtain rfl:bc=bc2:=by rw [hv] at hv2; injection hv2 with hv2; injection hv2 with hv2; injection hv2 with hv2
  have hcn:q.2.1=c.Chain.Hooks:=(h6 _ q c hq (by rw [List.getLast?_eq_getElem?] at hc; exact hc)).2.1;rw [hcn] at d1;refine EL_nt (L_ldS (α:=ChainBelt) (o:=(x.mill.Chains.length - 1) * 3 + 1) (a:=⟨c.Chain.Hooks,ks⟩) (cl:=[Iz c.Chain.Hooks,v9]) Tryz.isAgg92 Tryz.sizeOf92 hh2 ⟨[_],[_],rfl,rfl,rep_of_RV r9⟩ (fun j u hj=>?_) fun vB rB hlB=>?_)
  ·match j, hj with
   | 0,hj=>injection hj with hj; subst hj; exact d1
   | 1,hj=>injection hj with hj; subst hj; exact d2
   | j + 2,hj=>simp at hj
  refine E_drawC (g:=g10) (n:=9) [0,1,2,3,4,5,6,8] [1,3] [0,1,2,3,4,5,6,7,8] rfl mixedR (by kernel_rfl) fun wc hx hlt=>(CH_pur (c:=.pointer (some ⟨b,0,none⟩)) rfl rfl .plain (Zk e0) (CH_pur (c:=.pointer (some ⟨b,0,none⟩)) rfl rfl .plain (P_nilCheck rfl) (CH_pur (c:=.pointer (some ⟨b,0,none⟩)) rfl rfl .plain (P_fa at_144_0 rfl) (CH_pur (c:=.pointer (some ⟨bc,(x.mill.Chains.length - 1) * 3,none⟩)) rfl rfl .plain (Zk e4) (CH_pur (c:=.pointer (some ⟨bc,(x.mill.Chains.length - 1) * 3,none⟩)) rfl rfl .plain (P_nilCheck rfl) (CH_pur (c:=.pointer (some ⟨bc,(x.mill.Chains.length - 1) * 3 + 1,none⟩)) rfl rfl .plain (P_fa (o:=(x.mill.Chains.length - 1) * 3) at_94_1 rfl) (CH_ldO (n:=3) (c:=vB) rfl rfl .plain (hlB _) rfl rfl (CH_do rfl rfl .plain (Zp (g:=g10) (vs:=[vB]) en107 (.cons rfl .nil) (wk107 (rB.ext hx) her) fun g11 w11 v hs11 hv=>?_)))))))));subst hv;refine ⟨(hlt.ext hs11).toW,?_⟩;refine CH_pur (c:=.bool (er == (0:Int))) rfl rfl .plain (P_int rfl rfl rfl) (CH_nil ?_);have hx11:=hx.trans hs11;refine X_bnd (vs:=[.pointer (some ⟨b,0,none⟩),.bool (er == (0:Int))]) en64 (.cons rfl (.cons rfl .nil)) .plain rfl h (fun a ha=>wk64 (HBm.ext hb hx11) ha) (fun l e' g' w' hr hs=>endP hr (hfr.ext (hx11.trans hs))) (fun y g' w' v hs hR hx' hk=>?_);obtain rfl:=sinj hk;have hz:=hx11.trans hs;exact Zb (end0n rfl rfl ⟨g',hfr.ext hz,_,rfl,rfl,MB.fin (MB.setl (HBm.ext hb hz) (h2.ext hz) (h3.ext hz) (o10.ext hz) h5 (fun i q c a b=>(h6 i q c a b).ch hz.ch) hq hc (o9.ext hz) (r9.ext hz)) (hfr.ext hz)⟩)
end

section
variable {gI:Gh} {wI:World} {b:Nat} {x:BookMiller}
theorem layR_106:layoutOf Tryz.prog 106=some ([Iz 0,.slice none 0 0],[(0,1),(1,1)]):=by kernel_rfl
theorem layR_108:layoutOf Tryz.prog 108=some ([Str.v ⟨[]⟩,Iz 0,.slice none 0 0],[(0,1),(1,2)]):=by kernel_rfl
theorem infoR_108:(Tryz.prog.info? 108).map (fun i=>(i.zero,i.size,i.bytes))=some (some (.agg #[Str.v ⟨[]⟩,Iz 0,.slice none 0 0]),3,48):=by kernel_rfl
theorem RV_harn {m:Nat→Nat} {w:World} {h:Int} {ws:List Int} {v:Value} (r:RV m w ws v):RV m w (⟨h,ws⟩:TieHarness) (.agg #[Iz h,v]):=⟨_,(⟨[_],[_],rfl,rfl,rep_of_RV r⟩:GoT.rep m w ((h,ws):Int × List Int) _),rfl⟩
theorem RV_tie {m:Nat→Nat} {w:World} {u:Str} {h:Int} {ws:List Int} {v:Value} (r:RV m w ws v):RV m w (⟨u,⟨h,ws⟩⟩:BookTie) (.agg #[u.v,Iz h,v]):=⟨_,(⟨[_],[_,_],rfl,rfl,[_],[_],rfl,rfl,rep_of_RV r⟩:GoT.rep m w ((u,h,ws):Str × Int × List Int) _),rfl⟩
theorem MB.tie {g : Gh} {w : World} {vT vC : Value} {cr : List RawC} {ts : List BookTie} (hb : RB g w b 144 x.reader [vT, vC]) (h2 : OS 2 g w 108 ts vT) (h3 : RV g.m w ts vT) (h4 : OA 3 g w 94 cr vC) (h5 : cr.length = x.mill.Chains.length) (h6 : ∀ (i : Nat) (q : RawC) (c : BookChain), cr[i]? = some q → x.mill.Chains[i]? = some c → ChR g w q c)
  (h7:∀ (q:RawC) (c:BookChain),cr.getLast?=some q→x.mill.Chains.getLast?=some c→OS 4 g w 96 c.Chain.Cards q.2.2.v):MB g w b ⟨x.reader,⟨ts,x.mill.Chains⟩⟩:=⟨vT,vC,cr,hb,h2,h3,h4,h5,h6,h7⟩
theorem L_ldX {α : Type} [GoT α] {P : Program} {i b o T : Nat} {t : TypeId} {g : Gh} {w : World} {cs : Array Value} {a : α} {cl : List Value} (ha : ∀ w, (isAgg t).run P w = .ok (GoT.agg α) w) (hs : ∀ w, (sizeOf t).run P w = .ok (GoT.k α) w) (hb : HBm i g w b (.cells cs T (0, 0))) (hr : GoT.rep g.m w a cl) (hc : ∀ j c, cl[j]? = some c → cs[o + j]? = some c) :
  ∀ (x:Operand) (e:Env) (g':Gh) (w':World),(Ch g.m w g'.m w'∧∀ k,k < w.heap.size→g.o k=i→w'.heap[k]?=w.heap[k]?)→ev e x=.pointer (some ⟨b,o,none⟩)→∀ d ty pos af gd,(execOp (ev e) ⟨d,.load t x,ty,pos,af,gd⟩).run P w'=.ok (.value (toV (GoT.agg α) cl)) w':=fun x e g' w' hx he d ty pos af gd=>by
 have hh:=(hx.2 b hb.lt hb.1).trans hb.2.2
 have l:=loadVar_run (P:=P) (w:=w') (b:=b) (off:=o) ha hs (GoT.mono hx.1 hr) (fun j c hj=>by simpa [World.cell?,hh] using hc j c hj)
 simp [execOp,he,Instr.loadAt,Instr.sureAddr,Result.andThen,l]
def f79b (x:BookMiller):Option Str:=bif decide ((x.mill.Ties.length:Int) > 0) then (idx x.mill.Ties (w64 ((x.mill.Ties.length:Int) - 1))).bind fun t=>some t.Name else some ⟨[]⟩
def f79l (x:BookReader) (rest:List Str):Option (PR (List Int)):=
 lp (σ:=List Int × Int) (fun k z=>bif decide (z.2 < (rest.length:Int)) then (idx rest z.2).bind fun s=>bnd (f124 x s) fun n=>(apnd 8 z.1 [n]).bind fun ws=>k (ws,w64 (z.2 + 1)) else some (.ok z.1)) big ([],0)
def f79c (x : BookMiller) : Bool := match x.mill.Chains.getLast? with
 | none=>decide ((x.mill.Ties.length:Int) < 8)
 | some _=>false
def f79 (x:BookMiller) (ws:List Str):Option (PR BookMiller):=
 (f79b x).bind fun before=>bnd (f64 x.reader (f79c x)) fun _=>bnd (f123 x.reader ws before) fun hooks=>(cut ws 3 ws.length).bind fun rest=>
  bnd (f79l x.reader rest) fun warps=>(f105 ⟨hooks,warps⟩).bind fun er=>bnd (f64 x.reader (er == (0:Int))) fun _=>
  (idx ws 1).bind fun u=>(apnd 48 x.mill.Ties [⟨u,⟨hooks,warps⟩⟩]).bind fun ts=>some (.ok ⟨x.reader,⟨ts,x.mill.Chains⟩⟩)
theorem en79:Enters Tryz.prog 79:=enters_of Tryz.func79 (by kernel_rfl) rfl
theorem wk79 (hT:TabR gI.m wI) (hm:MB gI wI b x) {ws:List Str} {vW:Value} (rW:RV gI.m wI ws vW) {r:PR BookMiller} (h:f79 x ws=some r):FnS (StpR gI wI) Tryz.prog 79 #[.pointer (some ⟨b,0,none⟩),vW] wI (okR r fun y g w v=>v=.tuple #[]∧MB g w b y) (pnR 177 r):=by
 obtain ⟨before,hbf,h⟩:=bsome h;refine fnR_of_E Tryz.func79 rfl (Nat.le_of_ble_eq_true rfl) fun hfr=>?_;show E _ 89 none _ _ _ _ _;have hm:=hm.start;have hT:TabR (ghR gI).m wI:=hT;have rW:RV (ghR gI).m wI ws vW:=rW;generalize ghR gI=g0 at *;obtain ⟨vT,vC,cr,hb,h2,h3,h4,h5,h6,h7⟩:=hm;have hm:MB g0 wI b x:=⟨vT,vC,cr,hb,h2,h3,h4,h5,h6,h7⟩;refine E_sr (Zg (Str.v ⟨[]⟩) rfl rfl (EL_nt (E_joinD (fun e ds w'=>ds=[]∧e 0=.pointer (some ⟨b,0,none⟩)∧e 1=vW∧e 4=before.v∧wI=w') (fun Q' hQ'=>?_) ?_)))
 ·refine E_sr (Zn (.pointer (some ⟨b, 0, none⟩)) rfl rfl (EL_p (.pointer (some ⟨b, 0, none⟩)) (P_nilCheck rfl) rfl (EL_p (.pointer (some ⟨b, 3, none⟩)) (P_fa at_144_1 rfl) rfl (EL_p (.pointer (some ⟨b, 3, none⟩)) (P_fa (o := 3) at_39_0 rfl) rfl (EL_d0 rfl (D_load1 Tryz.isAgg36 rfl (hb.cell.trans rfl) (EL_p (Iz (x.mill.Ties.length : Int)) (P_len Tryz.underlying36 rfl h3) rfl (Zg (Iz (x.mill.Ties.length : Int)) rfl rfl (EL_nt (E_sr (Zn (Iz (x.mill.Ties.length : Int)) rfl rfl (EL_in (.bool (decide ((x.mill.Ties.length : Int) > 0))) rfl rfl rfl rfl (EL_nt ?_)))))))))))))
  unfold f79b at hbf;rcases Zt hbf with ⟨hp,hbf⟩ | ⟨hp,hbf⟩
  ·obtain ⟨t, ht, hbf⟩ := bsome hbf
   obtain rfl:=Option.some.inj hbf;refine E_ct hp rfl (Za (Zn (.pointer (some ⟨b,0,none⟩)) rfl rfl (EL_p (.pointer (some ⟨b,0,none⟩)) (P_nilCheck rfl) rfl (EL_p (.pointer (some ⟨b,3,none⟩)) (P_fa at_144_1 rfl) rfl (EL_p (.pointer (some ⟨b,3,none⟩)) (P_fa (o:=3) at_39_0 rfl) rfl (EL_d0 rfl (D_load1 Tryz.isAgg36 rfl (hb.cell.trans rfl) (Zn (Iz (x.mill.Ties.length:Int)) rfl rfl (EL_in (Iz (w64 ((x.mill.Ties.length:Int) - 1))) rfl rfl rfl rfl (EL_p (ePtr vT (w64 ((x.mill.Ties.length:Int) - 1)) 3) (Zh (α:=BookTie) Tryz.underlying36 Tryz.sizeOf108 rfl h3 rfl ht) rfl (EL_p (fPtr (ePtr vT (w64 ((x.mill.Ties.length:Int) - 1)) 3) 0) (Zc at_108_0 rfl (PT.ptr (PT_idx h3 ht))) rfl (EL_d0 rfl (D_load (a:=t.Name) Tryz.isAgg9 Tryz.sizeOf9 rfl (Zm part_BookTie_0.1 (PT_idx h3 ht)) fun v rv=>?_)))))))))))));obtain rfl:=RV_str.1 rv;refine Zg (t.Name.v) rfl rfl ?_;exact Zb (hQ' _ _ _ ⟨rfl,rfl,rfl,rfl,rfl⟩)
  ·obtain rfl := Option.some.inj hbf
   refine E_cf hp rfl (Zu ?_);exact hQ' _ _ _ ⟨rfl,rfl,rfl,rfl,rfl⟩
 rintro e ds w1 ⟨rfl,e0,e1,e4,rfl⟩;refine E_cut (fun e ds w'=>ds=[]∧e 0=.pointer (some ⟨b,0,none⟩)∧e 1=vW∧e 4=before.v∧∃ g',Ext g0 wI g' w'∧(bnd (f123 x.reader ws before) fun hooks=>(cut ws 3 ws.length).bind fun rest=>bnd (f79l x.reader rest) fun warps=>(f105 ⟨hooks,warps⟩).bind fun er=>bnd (f64 x.reader (er == (0:Int))) fun _=>(idx ws 1).bind fun u=>(apnd 48 x.mill.Ties [⟨u,⟨hooks,warps⟩⟩]).bind fun ts=>some (.ok ⟨x.reader,⟨ts,x.mill.Chains⟩⟩))=some r) ?_ ?_
 ·unfold f79c at h
  cases hc:x.mill.Chains.getLast? with
  | none=>
   rw [hc] at h;refine E_drawC (g:=g0) (n:=15) [0,1,2,3,5,6,7,8,9,10,11,12,13,14] [1] [0,1,2,3,4,5,6,7,8,9,10,11,12,13,14] rfl mixedR (by kernel_rfl) fun wc hx hlt=>(CH_pur (c:=.pointer (some ⟨b,0,none⟩)) rfl rfl .plain (Zk e0) (CH_pur (c:=.pointer (some ⟨b,0,none⟩)) rfl rfl .plain (P_nilCheck rfl) (CH_pur (c:=.pointer (some ⟨b,0,none⟩)) rfl rfl .plain (P_fa at_144_0 rfl) (CH_pur (c:=.pointer (some ⟨b,0,none⟩)) rfl rfl .plain (Zk e0) ?_))));have hmx:=hm.ext hx;have hbx:RB g0 wc b 144 x.reader [vT,vC]:=hb.ext hx;refine CH_do rfl rfl .plain (D_callC (vs:=[.pointer (some ⟨b,0,none⟩)]) (R:=fun v w'=>v=lastP vC x.mill.Chains.length∧wc=w') en122 (.cons rfl .nil) (Calls.mono (wk122 hbx hmx) fun r w' ⟨h1,h2⟩=>⟨_,h1,rfl,h2.symm⟩) fun v w' hv=>?_);obtain ⟨rfl,rfl⟩:=hv;refine ⟨hlt.toW,?_⟩;rw [MB.nol hm hc];refine CH_pur (c:=.bool true) rfl rfl .plain (P_ptreq (u1:=.pointer none) (u2:=.pointer none) (.inl rfl) rfl rfl ⟨_,rfl⟩ ⟨_,rfl⟩ fun w=>eql195 w) (CH_pur (c:=.bool true) rfl rfl .plain (Zk rfl) (CH_pur (c:=.pointer (some ⟨b,0,none⟩)) rfl rfl (.yes2 rfl rfl rfl) (Zk e0) (CH_pur (c:=.pointer (some ⟨b,0,none⟩)) rfl rfl (.yes2 rfl rfl rfl) (P_nilCheck rfl) (CH_pur (c:=.pointer (some ⟨b,3,none⟩)) rfl rfl (.yes2 rfl rfl rfl) (P_fa at_144_1 rfl) (CH_pur (c:=.pointer (some ⟨b,3,none⟩)) rfl rfl (.yes2 rfl rfl rfl) (P_fa (o:=3) at_39_0 rfl) (CH_ldO (n:=1) (c:=vT) rfl rfl (.yes2 rfl rfl rfl) (L_ldW Tryz.isAgg36 hb rfl _) rfl rfl (CH_pur (c:=Iz (x.mill.Ties.length:Int)) rfl rfl (.yes2 rfl rfl rfl) (P_len Tryz.underlying36 rfl h3) (CH_pur (c:=.bool (decide ((x.mill.Ties.length:Int) < 8))) rfl rfl (.yes2 rfl rfl rfl) (P_int rfl rfl rfl) (CH_pur (c:=.bool (decide ((x.mill.Ties.length:Int) < 8))) rfl rfl .plain (Zl rfl rfl) (CH_nil (X_bnd (vs:=[.pointer (some ⟨b,0,none⟩),.bool (decide ((x.mill.Ties.length:Int) < 8))]) en64 (.cons rfl (.cons rfl .nil)) .plain rfl h (fun a ha=>wk64 hbx ha) (fun l e' g' w' hr hs=>endP hr (hfr.ext (hx.trans hs))) (fun y g' w' v hs hR hx' hk=>?_))))))))))));exact Zb ⟨rfl,e0,e1,e4,g',hx.trans hs,hk⟩
  | some c=>
   rw [hc] at h;obtain ⟨vT',vC',cr',q,bc,cp,cs,h1',hv,h4',h5',hq,hh,c0,c1,c2,r3,o3,hl,_,_,_⟩:=MB.lastc hm hc;obtain ⟨rfl,rfl⟩:=RB_inj hb h1';refine E_drawC (g:=g0) (n:=15) [0,1,2,3,5,6,7,8,9,10,11,12,13,14] [1] [0,1,2,3,4,5,6,7,8,9,10,11,12,13,14] rfl mixedR (by kernel_rfl) fun wc hx hlt=>(CH_pur (c:=.pointer (some ⟨b,0,none⟩)) rfl rfl .plain (Zk e0) (CH_pur (c:=.pointer (some ⟨b,0,none⟩)) rfl rfl .plain (P_nilCheck rfl) (CH_pur (c:=.pointer (some ⟨b,0,none⟩)) rfl rfl .plain (P_fa at_144_0 rfl) (CH_pur (c:=.pointer (some ⟨b,0,none⟩)) rfl rfl .plain (Zk e0) ?_))));have hmx:=hm.ext hx;have hbx:RB g0 wc b 144 x.reader [vT,vC]:=hb.ext hx;refine CH_do rfl rfl .plain (D_callC (vs:=[.pointer (some ⟨b,0,none⟩)]) (R:=fun v w'=>v=lastP vC x.mill.Chains.length∧wc=w') en122 (.cons rfl .nil) (Calls.mono (wk122 hbx hmx) fun r w' ⟨h1,h2⟩=>⟨_,h1,rfl,h2.symm⟩) fun v w' hv=>?_);obtain ⟨rfl,rfl⟩:=hv;refine ⟨hlt.toW,?_⟩;rw [hl];refine CH_pur (c:=.bool false) rfl rfl .plain (P_ptreq (u1:=.pointer (some ⟨bc,(x.mill.Chains.length - 1) * 3,none⟩)) (u2:=.pointer none) (.inl rfl) rfl rfl ⟨_,rfl⟩ ⟨_,rfl⟩ fun w=>eql195 w) (CH_pur (c:=.bool false) rfl rfl .plain (Zk rfl) (CH_skip rfl (.no2 rfl rfl rfl rfl) (CH_skip rfl (.no2 rfl rfl rfl rfl) (CH_skip rfl (.no2 rfl rfl rfl rfl) (CH_skip rfl (.no2 rfl rfl rfl rfl) (CH_skip rfl (.no2 rfl rfl rfl rfl) (CH_skip rfl (.no2 rfl rfl rfl rfl) (CH_skip rfl (.no2 rfl rfl rfl rfl) (CH_pur (c:=.bool false) rfl rfl .plain (Zl rfl rfl) (CH_nil (X_bnd (vs:=[.pointer (some ⟨b,0,none⟩),.bool false]) en64 (.cons rfl (.cons rfl .nil)) .plain rfl h (fun a ha=>wk64 hbx ha) (fun l e' g' w' hr hs=>endP hr (hfr.ext (hx.trans hs))) (fun y g' w' v hs hR hx' hk=>?_))))))))))));obtain ⟨_,hf⟩:=hR
   cases hf
 clear h;rintro e ds w2 ⟨rfl,e0,e1,e4,g2,hs2,h⟩;have hfr:=hfr.ext hs2;have hm:=hm.ext hs2;have hb:RB g2 w2 b 144 x.reader [vT,vC]:=HBm.ext hb hs2;have rW:=rW.ext hs2;have hT:=hT.ch hs2.ch;refine E_sr (Zo e0 rfl (Zo e1 rfl (Zo e4 rfl (X_bnd (vs:=[.pointer (some ⟨b,0,none⟩),vW,before.v]) en123 (.cons rfl (.cons rfl (.cons rfl .nil))) .plain rfl h (fun a ha=>wk123 hT hb rW ha) (fun l e' g' w' hr hs=>endP hr (hfr.ext hs)) (fun hooks g3 w3 v hs3 hR hx3 h=>?_)))));obtain rfl:=hR;obtain ⟨rest,hrs,h⟩:=bsome h;refine EL_p (.agg #[Iz hooks,.slice none 0 0]) (P_build (vs:=[(0,Iz hooks)]) [[Iz 0],[.slice none 0 0]] layR_106 rfl rfl (.cons rfl .nil) ⟨⟨_,rfl,rfl⟩,trivial⟩) rfl (EL_d0 rfl (D_allocOc (g:=g3) 5 (⟨0,[]⟩:TieHarness) Tryz.zeroValue106 (fun m w=>RV_harn RV_nil) fun g4 w4 p4 hs4 b4 c4=>(EL_d0 rfl (D_storeOc (g:=g4) (a':=(⟨hooks,[]⟩:TieHarness)) (v:=.agg #[Iz hooks,.slice none 0 0]) Tryz.sizeOf106 rfl b4 rfl (RV_harn RV_nil) fun g5 w5 hs5 b5 c5=>?_))));obtain ⟨bt,rfl,hd⟩:=hbm_of b5 c5;have hfr:=((hfr.ext hs3).stp hs4).stp hs5;have hm:=((hm.ext hs3).stp hs4 rfl).stp hs5 rfl;have hb:RB g5 w5 b 144 x.reader [vT,vC]:=((HBm.ext hb hs3).stp hs4 rfl).stp hs5 rfl;have rW:=((rW.ext hs3).stp hs4).stp hs5;have hT:=hT.ch (hs3.ch.trans (hs4.ch.trans hs5.ch));have rR:=RV_cut rW hrs;obtain ⟨rr,hlr,hrr⟩:=bnd_some h;clear h
 have hpn:∀ l e',rr=.pn l e'→r=.pn l e':=fun l e' hr=>by
  rcases hrr with ⟨_,_,h1,h2⟩ | ⟨y,h1,_⟩
  ·rw [hr] at h1; cases h1; exact h2
  ·rw [hr] at h1; cases h1
 generalize hV:cutV vW (3:Int).toNat ((ws.length:Int)).toNat (GoT.k Str)=V at rR;refine EL_nt (E_cut (fun e ds w'=>ds=[]∧e 0=.pointer (some ⟨b,0,none⟩)∧e 1=vW∧e 6=.pointer (some ⟨bt,0,none⟩)∧∃ g' warps vs,FrR gI wI g' w'∧Ch g5.m w5 g'.m w'∧MB g' w' b x∧HBm 5 g' w' bt (.cells #[Iz hooks,vs] 106 (0,0))∧RV g'.m w' warps vs∧OS 6 g' w' 3 warps vs∧rr=.ok warps) ?_ ?_)
 ·refine E_sr (Zo e1 rfl (EL_p V (hV ▸ P_slice Tryz.underlying104 Tryz.sizeOf9 rfl rW rfl rfl hrs) rfl (EL_p (Iz (rest.length : Int)) (P_len Tryz.underlying104 rfl rR) rfl (Zn (Iz 0) rfl rfl (EL_nt (Zr ?_))))))
  unfold f79l at hlr;refine E_lpD hlr (fun (z:List Int × Int) e ds w'=>ds=[]∧e 0=.pointer (some ⟨b,0,none⟩)∧e 1=vW∧e 6=.pointer (some ⟨bt,0,none⟩)∧e 49=V∧e 50=Iz (rest.length:Int)∧e 51=Iz z.2∧∃ g' vs,FrR gI wI g' w'∧Ch g5.m w5 g'.m w'∧MB g' w' b x∧HBm 5 g' w' bt (.cells #[Iz hooks,vs] 106 (0,0))∧RV g'.m w' z.1 vs∧OS 6 g' w' 3 z.1 vs) ⟨rfl,e0,e1,rfl,rfl,rfl,rfl,g5,_,hfr,Ch.refl _ _,hm,hd,RV_nil,OS.nil⟩ (fun X rec hX=>?_);clear hlr hfr hm hd hb;rintro ⟨zs,zi⟩ e ds w6 ⟨rfl,e0,e1,e6,e49,e50,e51,g6,vs,hfr,hch,hm,hd,rZ,oZ⟩ hk;refine E_sr (EL_in (.bool (decide (zi < (rest.length:Int)))) e51 e50 rfl rfl (EL_nt (Zf ?_)));simp only at hk;rcases Zt hk with ⟨hc,hk⟩ | ⟨hc,hk⟩;rotate_left
  ·refine E_cf hc rfl (E_exit (thn_e (thn_e (blk_hit (Zd ?_)))))
   exact ⟨rfl,e0,e1,e6,g6,zs,vs,hfr,hch,hm,hd,rZ,oZ,(sinj hk).symm⟩
  refine E_ct hc rfl (Zu (Zd ?_));obtain ⟨s,hs,hk⟩:=bsome hk;have rR:=rR.ch hch;have hT:=hT.ch hch;obtain ⟨vT',vC',hb⟩:∃ vT vC,RB g6 w6 b 144 x.reader [vT,vC]:=let ⟨vT,vC,_,h1,_⟩:=hm; ⟨vT,vC,h1⟩;refine Zf (Zr (E_sr (EL_p (ePtr V zi 1) (Zh (α:=Str) Tryz.underlying104 Tryz.sizeOf9 e49 rR e51 hs) rfl (EL_d0 rfl (D_load (a:=s) Tryz.isAgg9 Tryz.sizeOf9 rfl (PT_idx rR hs) fun v rv=>?_)))));obtain rfl:=RV_str.1 rv;refine Zg (s.v) rfl rfl (EL_nt (E_drawX (g:=g6) (n:=9) (OutP (FrR gI wI) (pnR 177 r)) [0,1,2,3,4,5] [1,5] [6] [0,1,2,3,4,5,6,7,8] mixedR (by kernel_rfl) (fun c e w h=>⟨rfl,h⟩) fun wc hx hlt=>(CX_pur (c:=.pointer (some ⟨bt,1,none⟩)) rfl rfl rfl .plain (P_fa at_106_1 e6) (CX_ldO (n:=5) (c:=vs) rfl rfl rfl .plain (L_ldW Tryz.isAgg22 hd rfl _) rfl rfl (CX_pur (c:=.pointer (some ⟨b,0,none⟩)) rfl rfl rfl .plain (Zk e0) (CX_pur (c:=.pointer (some ⟨b,0,none⟩)) rfl rfl rfl .plain (P_nilCheck rfl) (CX_pur (c:=.pointer (some ⟨b,0,none⟩)) rfl rfl rfl .plain (P_fa at_144_0 rfl) (CX_pur (c:=s.v) rfl rfl rfl .plain (Zk rfl) (CX_bnd (vs:=[.pointer (some ⟨b,0,none⟩),s.v]) rfl rfl .plain en124 (.cons rfl (.cons rfl .nil)) hk (fun a ha=>wk124 (hT.ch hx.ch) (hb.ext hx) ha) (fun l e' g' w' hr hs=>⟨⟨l,e',hpn _ _ hr,rfl⟩,g',hfr.ext (hx.trans hs)⟩) (fun n g7 w7 v hs7 hR hx7 hk=>?_))))))))));obtain rfl:=hR;obtain ⟨zs',hap,hk⟩:=bsome hk;have hlt:=hlt.ext hs7;refine ⟨hlt.toW,?_⟩;have hs7:=hx.trans hs7;refine CX_do rfl rfl rfl .plain (D_buildSlice (g:=g7) 7 (xs:=([n]:List Int)) (vs:=[Iz n]) Tryz.underlying22 Tryz.sizeOf3 Tryz.zeroValue3 rfl rfl (.cons rfl .nil) (RVs.cons (Zj.2 rfl) RVs.nil) rfl rfl fun g8 w8 v8 _ _ r8 hx8 _=>?_);have hlt:=hlt.ext hx8;refine ⟨hlt.toW,?_⟩;have hs8:=hs7.trans hx8;refine CX_do rfl rfl rfl .plain (D_append (g:=g8) (i:=6) Tryz.underlying22 infoR_3 rfl rfl (oZ.ext hs8) (rZ.ext hs8) rfl r8 hap fun g9 w9 v9 hs9 o9 r9 _=>(⟨(hlt.stp hs9).toW,?_⟩));refine CX_nil (EL_p (.pointer (some ⟨bt,1,none⟩)) (P_fa at_106_1 e6) rfl (EL_d0 rfl (D_store1 (c:=v9) Tryz.sizeOf22 rfl rfl (by obtain ⟨_,_,rfl,_⟩:=RV_list r9; rfl) (by simp) ((hd.ext hs8).stp hs9 rfl) fun w10 hs10 hd10 _=>(Zb (blk_n (Zd (Za (EL_in (Iz (w64 (zi + 1))) e51 rfl rfl rfl (Zn (Iz (w64 (zi + 1))) rfl rfl (EL_nt ?_))))))))));exact hX (zs',w64 (zi + 1)) _ _ _ ⟨rfl,e0,e1,e6,e49,e50,rfl,g9,v9,((hfr.ext hs8).stp hs9).stp hs10,hch.trans (hs8.ch.trans (hs9.ch.trans hs10.ch)),((hm.ext hs8).stp hs9 rfl).stp hs10 rfl,hd10,r9.stp hs10,o9.stp hs10 rfl⟩ hk
 clear hfr hm hd hlr hb;rintro e ds w6 ⟨rfl,e0,e1,e6,g6,warps,vs,hfr,hch,hm,hd,rZ,oZ,hrk⟩
 have h:((f105 ⟨hooks,warps⟩).bind fun er=>bnd (f64 x.reader (er == (0:Int))) fun _=>(idx ws 1).bind fun u=>(apnd 48 x.mill.Ties [⟨u,⟨hooks,warps⟩⟩]).bind fun ts=>some (.ok ⟨x.reader,⟨ts,x.mill.Chains⟩⟩))=some r:=by
  rcases hrr with ⟨_,_,h1,h2⟩ | ⟨y,h1,h2⟩
  ·rw [hrk] at h1; cases h1
  ·rw [hrk] at h1; cases h1; exact h2
 clear hrr hpn;obtain ⟨er,her,h⟩:=bsome h;have rW:=rW.ch hch;have hT:=hT.ch hch;obtain ⟨vT,vC,cr,hb,h2,h3,h4,h5,h6,h7⟩:=hm;refine Zf (E_drawC (g:=g6) (n:=6) [0,1,2,3,5] [1,5] [0,1,2,3,4,5] rfl mixedR (by kernel_rfl) fun wc hx hlt=>(CH_pur (c:=.pointer (some ⟨b,0,none⟩)) rfl rfl .plain (Zk e0) (CH_pur (c:=.pointer (some ⟨b,0,none⟩)) rfl rfl .plain (P_nilCheck rfl) (CH_pur (c:=.pointer (some ⟨b,0,none⟩)) rfl rfl .plain (P_fa at_144_0 rfl) ?_))))
 refine CH_ldO (n:=5) (c:=.agg #[Iz hooks,vs]) rfl rfl .plain (L_ldX (α:=TieHarness) (a:=⟨hooks,warps⟩) (o:=0) (cl:=[Iz hooks,vs]) Tryz.isAgg106 Tryz.sizeOf106 hd ⟨[_],[_],rfl,rfl,rep_of_RV rZ⟩ (fun j u hj=>by
  match j,hj with
  | 0,hj=>exact hj
  | 1,hj=>exact hj
  | j + 2,hj=>simp at hj) _) e6 rfl ?_
 refine CH_do rfl rfl .plain (Zp (g:=g6) (vs:=[.agg #[Iz hooks,vs]]) en105 (.cons rfl .nil) (wk105 ((RV_harn rZ).ext hx) her) fun g7 w7 v hs7 hv=>?_);subst hv;refine ⟨(hlt.ext hs7).toW,?_⟩;refine CH_pur (c:=.bool (er == (0:Int))) rfl rfl .plain (P_int rfl rfl rfl) (CH_nil ?_);have hs7:=hx.trans hs7;refine X_bnd (vs:=[.pointer (some ⟨b,0,none⟩),.bool (er == (0:Int))]) en64 (.cons rfl (.cons rfl .nil)) .plain rfl h (fun a ha=>wk64 (HBm.ext hb hs7) ha) (fun l e' g' w' hr hs=>endP hr (hfr.ext (hs7.trans hs))) (fun y g8 w8 v hs8 hR hx' h=>(EL_nt ?_));obtain ⟨u,hu,h⟩:=bsome h;obtain ⟨ts,hts,h⟩:=bsome h;obtain rfl:=sinj h;have hs8:=hs7.trans hs8;have hfr:=hfr.ext hs8;have hb:RB g8 w8 b 144 x.reader [vT,vC]:=HBm.ext hb hs8;have rW:=rW.ext hs8;have hd:=hd.ext hs8;have rZ:=rZ.ext hs8;have h2:=h2.ext hs8;have h3:=h3.ext hs8;have h4:=h4.ext hs8;refine Zs (x:=.tmp 80) Tryz.isAgg9 Tryz.sizeOf9 (PT_idx rW hu) fun vc rc hld=>?_;obtain rfl:=RV_str.1 rc;refine E_drawC (g:=g8) (n:=13) [0,1,2,3,4,5,6,7,8,9,10] [1,5] [0,1,2,3,4,5,6,7,8,9,10,11,12] rfl mixedR (by kernel_rfl) fun wc hx hlt=>(CH_pur (c:=.pointer (some ⟨b,0,none⟩)) rfl rfl .plain (Zk e0) (CH_pur (c:=.pointer (some ⟨b,0,none⟩)) rfl rfl .plain (Zk e0) (CH_pur (c:=.pointer (some ⟨b,0,none⟩)) rfl rfl .plain (P_nilCheck rfl) (CH_pur (c:=.pointer (some ⟨b,3,none⟩)) rfl rfl .plain (P_fa at_144_1 rfl) (CH_pur (c:=.pointer (some ⟨b,3,none⟩)) rfl rfl .plain (P_fa (o:=3) at_39_0 rfl) (CH_ldO (n:=1) (c:=vT) rfl rfl .plain (L_ldW Tryz.isAgg36 hb rfl _) rfl rfl (CH_pur (c:=vW) rfl rfl .plain (Zk e1) (CH_pur (c:=ePtr vW 1 1) rfl rfl .plain (Zh (α:=Str) Tryz.underlying104 Tryz.sizeOf9 rfl rW rfl hu) (CH_ldP (c:=u.v) rfl rfl .plain hld rfl ?_)))))))))
 refine CH_ldO (n:=5) (c:=.agg #[Iz hooks,vs]) rfl rfl .plain (L_ldX (α:=TieHarness) (a:=⟨hooks,warps⟩) (o:=0) (cl:=[Iz hooks,vs]) Tryz.isAgg106 Tryz.sizeOf106 hd ⟨[_],[_],rfl,rfl,rep_of_RV rZ⟩ (fun j u hj=>by
  match j,hj with
  | 0,hj=>exact hj
  | 1,hj=>exact hj
  | j + 2,hj=>simp at hj) _) e6 rfl ?_
 refine CH_pur (c:=.agg #[u.v,Iz hooks,vs]) rfl rfl .plain (P_build (vs:=[(0,u.v),(1,.agg #[Iz hooks,vs])]) [[Str.v ⟨[]⟩],[Iz 0,.slice none 0 0]] layR_108 rfl rfl (.cons rfl (.cons rfl .nil)) ⟨⟨_,rfl,rfl⟩,⟨⟨_,rfl,rfl⟩,trivial⟩⟩) (CH_do rfl rfl .plain (D_buildSlice (g:=g8) 7 (xs:=([⟨u,⟨hooks,warps⟩⟩]:List BookTie)) (vs:=[.agg #[u.v,Iz hooks,vs]]) Tryz.underlying36 Tryz.sizeOf108 Tryz.zeroValue108 rfl rfl (.cons rfl .nil) (RVs.cons (RV_tie (rZ.ext hx)) RVs.nil) rfl rfl fun g9 w9 v9 _ _ r9 hx9 _=>?_));have hlt:=hlt.ext hx9;refine ⟨hlt.toW,?_⟩;have hx9:=hx.trans hx9;refine CH_do rfl rfl .plain (D_append (g:=g9) (i:=2) Tryz.underlying36 infoR_108 rfl rfl (h2.ext hx9) (h3.ext hx9) rfl r9 hts fun g10 w10 v10 hs10 o10 r10 _=>(⟨(hlt.stp hs10).toW,?_⟩));refine CH_nil (EL_p (.pointer (some ⟨b,0,none⟩)) (P_nilCheck rfl) rfl (EL_p (.pointer (some ⟨b,3,none⟩)) (P_fa at_144_1 rfl) rfl (EL_p (.pointer (some ⟨b,3,none⟩)) (P_fa (o:=3) at_39_0 rfl) rfl (EL_d0 rfl (D_store1 (c:=v10) Tryz.sizeOf36 rfl rfl (by obtain ⟨_,_,rfl,_⟩:=RV_list r10; rfl) (by simp) ((HBm.ext hb hx9).stp hs10 rfl) fun w11 hs11 hb11 _=>?_)))));have hfr:=((hfr.ext hx9).stp hs10).stp hs11;refine Zb (end0n rfl rfl ⟨g10,hfr,_,rfl,rfl,MB.fin (MB.tie (cr:=cr) hb11 (o10.stp hs11 rfl) (r10.stp hs11) (((h4.ext hx9).stp hs10 rfl).stp hs11 rfl) h5 ?_ ?_) hfr⟩)
 ·exact fun i q c a b=>(h6 i q c a b).ch (hs8.ch.trans (hx9.ch.trans (hs10.ch.trans hs11.ch)))
 ·exact fun q c a b=>((((h7 q c a b).ext hs8).ext hx9).stp hs10 rfl).stp hs11 rfl
end

end Go.Proofs.YtmebkoemfjlbcaaGreatDoor
