/- Closed calls, run by the machine of plain data. -/
import Derived.Test.YtkmbkaoolacofaaFb
import Derived.Test.YtkmbkaoolacofaaProg
namespace Go.Proofs.Ytkmbkaoolacofaa
open Go.RowKit
set_option maxRecDepth 100000
noncomputable def tabT : Tab := ⟨(.nd (.nd (.nd (.nd (.nd (.nd (.nd .nil (some (fi Try.f63)) .nil) (some (fi Try.f31)) (.nd .nil (some (fi Try.f95)) .nil)) (some (fi Try.f15)) (.nd (.nd .nil (some (fi Try.f79)) .nil) (some (fi Try.f47)) .nil)) (some (fi Try.f7)) (.nd (.nd (.nd .nil (some (fi Try.f71)) .nil) (some (fi Try.f39)) (.nd .nil (some (fi Try.f103)) .nil)) (some (fi Try.f23)) (.nd (.nd .nil (some (fi Try.f87)) .nil) (some (fi Try.f55)) .nil))) none (.nd (.nd (.nd (.nd .nil (some (fi Try.f67)) .nil) (some (fi Try.f35)) (.nd .nil (some (fi Try.f99)) .nil)) (some (fi Try.f19)) (.nd (.nd .nil (some (fi Try.f83)) .nil) (some (fi Try.f51)) .nil)) (some (fi Try.f11)) (.nd (.nd (.nd .nil (some (fi Try.f75)) .nil) (some (fi Try.f43)) .nil) (some (fi Try.f27)) (.nd (.nd .nil (some (fi Try.f91)) .nil) (some (fi Try.f59)) .nil)))) none (.nd (.nd (.nd (.nd (.nd .nil (some (fi Try.f65)) .nil) (some (fi Try.f33)) (.nd .nil (some (fi Try.f97)) .nil)) (some (fi Try.f17)) (.nd (.nd .nil (some (fi Try.f81)) .nil) (some (fi Try.f49)) .nil)) none (.nd (.nd (.nd .nil (some (fi Try.f73)) .nil) (some (fi Try.f41)) .nil) (some (fi Try.f25)) (.nd (.nd .nil (some (fi Try.f89)) .nil) (some (fi Try.f57)) .nil))) (some (fi Try.f5)) (.nd (.nd (.nd (.nd .nil (some (fi Try.f69)) .nil) (some (fi Try.f37)) (.nd .nil (some (fi Try.f101)) .nil)) (some (fi Try.f21)) (.nd (.nd .nil (some (fi Try.f85)) .nil) (some (fi Try.f53)) .nil)) (some (fi Try.f13)) (.nd (.nd (.nd .nil (some (fi Try.f77)) .nil) (some (fi Try.f45)) .nil) (some (fi Try.f29)) (.nd (.nd .nil (some (fi Try.f93)) .nil) (some (fi Try.f61)) .nil))))) none (.nd (.nd (.nd (.nd (.nd (.nd .nil (some (fi Try.f64)) .nil) (some (fi Try.f32)) (.nd .nil (some (fi Try.f96)) .nil)) (some (fi Try.f16)) (.nd (.nd .nil (some (fi Try.f80)) .nil) (some (fi Try.f48)) .nil)) (some (fi Try.f8)) (.nd (.nd (.nd .nil (some (fi Try.f72)) .nil) (some (fi Try.f40)) (.nd .nil (some (fi Try.f104)) .nil)) (some (fi Try.f24)) (.nd (.nd .nil (some (fi Try.f88)) .nil) (some (fi Try.f56)) .nil))) none (.nd (.nd (.nd (.nd .nil (some (fi Try.f68)) .nil) (some (fi Try.f36)) (.nd .nil (some (fi Try.f100)) .nil)) (some (fi Try.f20)) (.nd (.nd .nil (some (fi Try.f84)) .nil) (some (fi Try.f52)) .nil)) (some (fi Try.f12)) (.nd (.nd (.nd .nil (some (fi Try.f76)) .nil) (some (fi Try.f44)) .nil) (some (fi Try.f28)) (.nd (.nd .nil (some (fi Try.f92)) .nil) (some (fi Try.f60)) .nil)))) none (.nd (.nd (.nd (.nd (.nd .nil (some (fi Try.f66)) .nil) (some (fi Try.f34)) (.nd .nil (some (fi Try.f98)) .nil)) (some (fi Try.f18)) (.nd (.nd .nil (some (fi Try.f82)) .nil) (some (fi Try.f50)) .nil)) none (.nd (.nd (.nd .nil (some (fi Try.f74)) .nil) (some (fi Try.f42)) .nil) (some (fi Try.f26)) (.nd (.nd .nil (some (fi Try.f90)) .nil) (some (fi Try.f58)) .nil))) none (.nd (.nd (.nd (.nd .nil (some (fi Try.f70)) .nil) (some (fi Try.f38)) (.nd .nil (some (fi Try.f102)) .nil)) (some (fi Try.f22)) (.nd (.nd .nil (some (fi Try.f86)) .nil) (some (fi Try.f54)) .nil)) (some (fi Try.f14)) (.nd (.nd (.nd .nil (some (fi Try.f78)) .nil) (some (fi Try.f46)) .nil) (some (fi Try.f30)) (.nd (.nd .nil (some (fi Try.f94)) .nil) (some (fi Try.f62)) .nil)))))), []⟩
noncomputable def tabLst : List (Nat × FI) := [(5, fi Try.f5), (7, fi Try.f7), (8, fi Try.f8), (11, fi Try.f11), (12, fi Try.f12), (13, fi Try.f13), (14, fi Try.f14), (15, fi Try.f15), (16, fi Try.f16), (17, fi Try.f17), (18, fi Try.f18), (19, fi Try.f19), (20, fi Try.f20), (21, fi Try.f21), (22, fi Try.f22), (23, fi Try.f23), (24, fi Try.f24), (25, fi Try.f25), (26, fi Try.f26), (27, fi Try.f27), (28, fi Try.f28), (29, fi Try.f29), (30, fi Try.f30), (31, fi Try.f31), (32, fi Try.f32), (33, fi Try.f33), (34, fi Try.f34), (35, fi Try.f35), (36, fi Try.f36), (37, fi Try.f37), (38, fi Try.f38), (39, fi Try.f39), (40, fi Try.f40), (41, fi Try.f41), (42, fi Try.f42), (43, fi Try.f43), (44, fi Try.f44), (45, fi Try.f45), (46, fi Try.f46), (47, fi Try.f47), (48, fi Try.f48), (49, fi Try.f49), (50, fi Try.f50), (51, fi Try.f51), (52, fi Try.f52), (53, fi Try.f53), (54, fi Try.f54), (55, fi Try.f55), (56, fi Try.f56), (57, fi Try.f57), (58, fi Try.f58), (59, fi Try.f59), (60, fi Try.f60), (61, fi Try.f61), (62, fi Try.f62), (63, fi Try.f63), (64, fi Try.f64), (65, fi Try.f65), (66, fi Try.f66), (67, fi Try.f67), (68, fi Try.f68), (69, fi Try.f69), (70, fi Try.f70), (71, fi Try.f71), (72, fi Try.f72), (73, fi Try.f73), (74, fi Try.f74), (75, fi Try.f75), (76, fi Try.f76), (77, fi Try.f77), (78, fi Try.f78), (79, fi Try.f79), (80, fi Try.f80), (81, fi Try.f81), (82, fi Try.f82), (83, fi Try.f83), (84, fi Try.f84), (85, fi Try.f85), (86, fi Try.f86), (87, fi Try.f87), (88, fi Try.f88), (89, fi Try.f89), (90, fi Try.f90), (91, fi Try.f91), (92, fi Try.f92), (93, fi Try.f93), (94, fi Try.f94), (95, fi Try.f95), (96, fi Try.f96), (97, fi Try.f97), (98, fi Try.f98), (99, fi Try.f99), (100, fi Try.f100), (101, fi Try.f101), (102, fi Try.f102), (103, fi Try.f103), (104, fi Try.f104)]
theorem tab_eq : tabT = tabL tabLst := by kernel_rfl
theorem mixedK : Try.prog.follows .mixedOrders = true := by kernel_rfl
theorem tab_ok : TabOk Try.prog tabT := by
 rw [tab_eq]
 exact
  tok_cons (enters_of Try.func5 (by kernel_rfl) rfl) Try.func5 rfl (by kernel_rfl) <|
  tok_cons (enters_of Try.func7 (by kernel_rfl) rfl) Try.func7 rfl (by kernel_rfl) <|
  tok_cons (enters_of Try.func8 (by kernel_rfl) rfl) Try.func8 rfl (by kernel_rfl) <|
  tok_cons (enters_of Try.func11 (by kernel_rfl) rfl) Try.func11 rfl (by kernel_rfl) <|
  tok_cons (enters_of Try.func12 (by kernel_rfl) rfl) Try.func12 rfl (by kernel_rfl) <|
  tok_cons (enters_of Try.func13 (by kernel_rfl) rfl) Try.func13 rfl (by kernel_rfl) <|
  tok_cons (enters_of Try.func14 (by kernel_rfl) rfl) Try.func14 rfl (by kernel_rfl) <|
  tok_cons (enters_of Try.func15 (by kernel_rfl) rfl) Try.func15 rfl (by kernel_rfl) <|
  tok_cons (enters_of Try.func16 (by kernel_rfl) rfl) Try.func16 rfl (by kernel_rfl) <|
  tok_cons (enters_of Try.func17 (by kernel_rfl) rfl) Try.func17 rfl (by kernel_rfl) <|
  tok_cons (enters_of Try.func18 (by kernel_rfl) rfl) Try.func18 rfl (by kernel_rfl) <|
  tok_cons (enters_of Try.func19 (by kernel_rfl) rfl) Try.func19 rfl (by kernel_rfl) <|
  tok_cons (enters_of Try.func20 (by kernel_rfl) rfl) Try.func20 rfl (by kernel_rfl) <|
  tok_cons (enters_of Try.func21 (by kernel_rfl) rfl) Try.func21 rfl (by kernel_rfl) <|
  tok_cons (enters_of Try.func22 (by kernel_rfl) rfl) Try.func22 rfl (by kernel_rfl) <|
  tok_cons (enters_of Try.func23 (by kernel_rfl) rfl) Try.func23 rfl (by kernel_rfl) <|
  tok_cons (enters_of Try.func24 (by kernel_rfl) rfl) Try.func24 rfl (by kernel_rfl) <|
  tok_cons (enters_of Try.func25 (by kernel_rfl) rfl) Try.func25 rfl (by kernel_rfl) <|
  tok_cons (enters_of Try.func26 (by kernel_rfl) rfl) Try.func26 rfl (by kernel_rfl) <|
  tok_cons (enters_of Try.func27 (by kernel_rfl) rfl) Try.func27 rfl (by kernel_rfl) <|
  tok_cons (enters_of Try.func28 (by kernel_rfl) rfl) Try.func28 rfl (by kernel_rfl) <|
  tok_cons (enters_of Try.func29 (by kernel_rfl) rfl) Try.func29 rfl (by kernel_rfl) <|
  tok_cons (enters_of Try.func30 (by kernel_rfl) rfl) Try.func30 rfl (by kernel_rfl) <|
  tok_cons (enters_of Try.func31 (by kernel_rfl) rfl) Try.func31 rfl (by kernel_rfl) <|
  tok_cons (enters_of Try.func32 (by kernel_rfl) rfl) Try.func32 rfl (by kernel_rfl) <|
  tok_cons (enters_of Try.func33 (by kernel_rfl) rfl) Try.func33 rfl (by kernel_rfl) <|
  tok_cons (enters_of Try.func34 (by kernel_rfl) rfl) Try.func34 rfl (by kernel_rfl) <|
  tok_cons (enters_of Try.func35 (by kernel_rfl) rfl) Try.func35 rfl (by kernel_rfl) <|
  tok_cons (enters_of Try.func36 (by kernel_rfl) rfl) Try.func36 rfl (by kernel_rfl) <|
  tok_cons (enters_of Try.func37 (by kernel_rfl) rfl) Try.func37 rfl (by kernel_rfl) <|
  tok_cons (enters_of Try.func38 (by kernel_rfl) rfl) Try.func38 rfl (by kernel_rfl) <|
  tok_cons (enters_of Try.func39 (by kernel_rfl) rfl) Try.func39 rfl (by kernel_rfl) <|
  tok_cons (enters_of Try.func40 (by kernel_rfl) rfl) Try.func40 rfl (by kernel_rfl) <|
  tok_cons (enters_of Try.func41 (by kernel_rfl) rfl) Try.func41 rfl (by kernel_rfl) <|
  tok_cons (enters_of Try.func42 (by kernel_rfl) rfl) Try.func42 rfl (by kernel_rfl) <|
  tok_cons (enters_of Try.func43 (by kernel_rfl) rfl) Try.func43 rfl (by kernel_rfl) <|
  tok_cons (enters_of Try.func44 (by kernel_rfl) rfl) Try.func44 rfl (by kernel_rfl) <|
  tok_cons (enters_of Try.func45 (by kernel_rfl) rfl) Try.func45 rfl (by kernel_rfl) <|
  tok_cons (enters_of Try.func46 (by kernel_rfl) rfl) Try.func46 rfl (by kernel_rfl) <|
  tok_cons (enters_of Try.func47 (by kernel_rfl) rfl) Try.func47 rfl (by kernel_rfl) <|
  tok_cons (enters_of Try.func48 (by kernel_rfl) rfl) Try.func48 rfl (by kernel_rfl) <|
  tok_cons (enters_of Try.func49 (by kernel_rfl) rfl) Try.func49 rfl (by kernel_rfl) <|
  tok_cons (enters_of Try.func50 (by kernel_rfl) rfl) Try.func50 rfl (by kernel_rfl) <|
  tok_cons (enters_of Try.func51 (by kernel_rfl) rfl) Try.func51 rfl (by kernel_rfl) <|
  tok_cons (enters_of Try.func52 (by kernel_rfl) rfl) Try.func52 rfl (by kernel_rfl) <|
  tok_cons (enters_of Try.func53 (by kernel_rfl) rfl) Try.func53 rfl (by kernel_rfl) <|
  tok_cons (enters_of Try.func54 (by kernel_rfl) rfl) Try.func54 rfl (by kernel_rfl) <|
  tok_cons (enters_of Try.func55 (by kernel_rfl) rfl) Try.func55 rfl (by kernel_rfl) <|
  tok_cons (enters_of Try.func56 (by kernel_rfl) rfl) Try.func56 rfl (by kernel_rfl) <|
  tok_cons (enters_of Try.func57 (by kernel_rfl) rfl) Try.func57 rfl (by kernel_rfl) <|
  tok_cons (enters_of Try.func58 (by kernel_rfl) rfl) Try.func58 rfl (by kernel_rfl) <|
  tok_cons (enters_of Try.func59 (by kernel_rfl) rfl) Try.func59 rfl (by kernel_rfl) <|
  tok_cons (enters_of Try.func60 (by kernel_rfl) rfl) Try.func60 rfl (by kernel_rfl) <|
  tok_cons (enters_of Try.func61 (by kernel_rfl) rfl) Try.func61 rfl (by kernel_rfl) <|
  tok_cons (enters_of Try.func62 (by kernel_rfl) rfl) Try.func62 rfl (by kernel_rfl) <|
  tok_cons (enters_of Try.func63 (by kernel_rfl) rfl) Try.func63 rfl (by kernel_rfl) <|
  tok_cons (enters_of Try.func64 (by kernel_rfl) rfl) Try.func64 rfl (by kernel_rfl) <|
  tok_cons (enters_of Try.func65 (by kernel_rfl) rfl) Try.func65 rfl (by kernel_rfl) <|
  tok_cons (enters_of Try.func66 (by kernel_rfl) rfl) Try.func66 rfl (by kernel_rfl) <|
  tok_cons (enters_of Try.func67 (by kernel_rfl) rfl) Try.func67 rfl (by kernel_rfl) <|
  tok_cons (enters_of Try.func68 (by kernel_rfl) rfl) Try.func68 rfl (by kernel_rfl) <|
  tok_cons (enters_of Try.func69 (by kernel_rfl) rfl) Try.func69 rfl (by kernel_rfl) <|
  tok_cons (enters_of Try.func70 (by kernel_rfl) rfl) Try.func70 rfl (by kernel_rfl) <|
  tok_cons (enters_of Try.func71 (by kernel_rfl) rfl) Try.func71 rfl (by kernel_rfl) <|
  tok_cons (enters_of Try.func72 (by kernel_rfl) rfl) Try.func72 rfl (by kernel_rfl) <|
  tok_cons (enters_of Try.func73 (by kernel_rfl) rfl) Try.func73 rfl (by kernel_rfl) <|
  tok_cons (enters_of Try.func74 (by kernel_rfl) rfl) Try.func74 rfl (by kernel_rfl) <|
  tok_cons (enters_of Try.func75 (by kernel_rfl) rfl) Try.func75 rfl (by kernel_rfl) <|
  tok_cons (enters_of Try.func76 (by kernel_rfl) rfl) Try.func76 rfl (by kernel_rfl) <|
  tok_cons (enters_of Try.func77 (by kernel_rfl) rfl) Try.func77 rfl (by kernel_rfl) <|
  tok_cons (enters_of Try.func78 (by kernel_rfl) rfl) Try.func78 rfl (by kernel_rfl) <|
  tok_cons (enters_of Try.func79 (by kernel_rfl) rfl) Try.func79 rfl (by kernel_rfl) <|
  tok_cons (enters_of Try.func80 (by kernel_rfl) rfl) Try.func80 rfl (by kernel_rfl) <|
  tok_cons (enters_of Try.func81 (by kernel_rfl) rfl) Try.func81 rfl (by kernel_rfl) <|
  tok_cons (enters_of Try.func82 (by kernel_rfl) rfl) Try.func82 rfl (by kernel_rfl) <|
  tok_cons (enters_of Try.func83 (by kernel_rfl) rfl) Try.func83 rfl (by kernel_rfl) <|
  tok_cons (enters_of Try.func84 (by kernel_rfl) rfl) Try.func84 rfl (by kernel_rfl) <|
  tok_cons (enters_of Try.func85 (by kernel_rfl) rfl) Try.func85 rfl (by kernel_rfl) <|
  tok_cons (enters_of Try.func86 (by kernel_rfl) rfl) Try.func86 rfl (by kernel_rfl) <|
  tok_cons (enters_of Try.func87 (by kernel_rfl) rfl) Try.func87 rfl (by kernel_rfl) <|
  tok_cons (enters_of Try.func88 (by kernel_rfl) rfl) Try.func88 rfl (by kernel_rfl) <|
  tok_cons (enters_of Try.func89 (by kernel_rfl) rfl) Try.func89 rfl (by kernel_rfl) <|
  tok_cons (enters_of Try.func90 (by kernel_rfl) rfl) Try.func90 rfl (by kernel_rfl) <|
  tok_cons (enters_of Try.func91 (by kernel_rfl) rfl) Try.func91 rfl (by kernel_rfl) <|
  tok_cons (enters_of Try.func92 (by kernel_rfl) rfl) Try.func92 rfl (by kernel_rfl) <|
  tok_cons (enters_of Try.func93 (by kernel_rfl) rfl) Try.func93 rfl (by kernel_rfl) <|
  tok_cons (enters_of Try.func94 (by kernel_rfl) rfl) Try.func94 rfl (by kernel_rfl) <|
  tok_cons (enters_of Try.func95 (by kernel_rfl) rfl) Try.func95 rfl (by kernel_rfl) <|
  tok_cons (enters_of Try.func96 (by kernel_rfl) rfl) Try.func96 rfl (by kernel_rfl) <|
  tok_cons (enters_of Try.func97 (by kernel_rfl) rfl) Try.func97 rfl (by kernel_rfl) <|
  tok_cons (enters_of Try.func98 (by kernel_rfl) rfl) Try.func98 rfl (by kernel_rfl) <|
  tok_cons (enters_of Try.func99 (by kernel_rfl) rfl) Try.func99 rfl (by kernel_rfl) <|
  tok_cons (enters_of Try.func100 (by kernel_rfl) rfl) Try.func100 rfl (by kernel_rfl) <|
  tok_cons (enters_of Try.func101 (by kernel_rfl) rfl) Try.func101 rfl (by kernel_rfl) <|
  tok_cons (enters_of Try.func102 (by kernel_rfl) rfl) Try.func102 rfl (by kernel_rfl) <|
  tok_cons (enters_of Try.func103 (by kernel_rfl) rfl) Try.func103 rfl (by kernel_rfl) <|
  tok_cons (enters_of Try.func104 (by kernel_rfl) rfl) Try.func104 rfl (by kernel_rfl) <|
  tok_nil
theorem kn5 : (fr Try.prog tabT 100000).f false cx0 5 [] S0 (fun v _ => isTrue v) = true := by kernel_rfl
theorem wkK5 {gI : Gh} {wI : World} : Fn Try.prog 5 #[] gI wI (fun _ _ v => v = .bool true) := fn_fast mixedK tab_ok kn5
end Go.Proofs.Ytkmbkaoolacofaa
