/- Closed calls, run by the machine of plain data. -/
import Derived.Test.YtkmbkaoolacofaaGreatFb
import Derived.Test.YtkmbkaoolacofaaGreatProg
namespace Go.Proofs.YtkmbkaoolacofaaGreat
open Go.RowKit
set_option maxRecDepth 100000
noncomputable def tabT : Tab := ⟨(.nd (.nd (.nd (.nd (.nd (.nd (.nd (.nd .nil (some (fi Tryz.f127)) .nil) (some (fi Tryz.f63)) .nil) none (.nd .nil (some (fi Tryz.f95)) .nil)) (some (fi Tryz.f15)) (.nd (.nd .nil (some (fi Tryz.f79)) .nil) none (.nd .nil (some (fi Tryz.f111)) .nil))) none (.nd (.nd (.nd (.nd .nil (some (fi Tryz.f135)) .nil) (some (fi Tryz.f71)) .nil) none (.nd .nil (some (fi Tryz.f103)) .nil)) none (.nd (.nd .nil (some (fi Tryz.f87)) .nil) (some (fi Tryz.f55)) (.nd .nil (some (fi Tryz.f119)) .nil)))) none (.nd (.nd (.nd (.nd (.nd .nil (some (fi Tryz.f131)) .nil) (some (fi Tryz.f67)) .nil) none (.nd .nil (some (fi Tryz.f99)) .nil)) none (.nd (.nd .nil (some (fi Tryz.f83)) .nil) (some (fi Tryz.f51)) (.nd .nil (some (fi Tryz.f115)) .nil))) none (.nd (.nd (.nd .nil (some (fi Tryz.f75)) .nil) none (.nd .nil (some (fi Tryz.f107)) .nil)) (some (fi Tryz.f27)) (.nd (.nd .nil (some (fi Tryz.f91)) .nil) (some (fi Tryz.f59)) (.nd .nil (some (fi Tryz.f123)) .nil))))) none (.nd (.nd (.nd (.nd (.nd (.nd .nil (some (fi Tryz.f129)) .nil) (some (fi Tryz.f65)) .nil) none (.nd .nil (some (fi Tryz.f97)) .nil)) (some (fi Tryz.f17)) (.nd (.nd .nil (some (fi Tryz.f81)) .nil) (some (fi Tryz.f49)) (.nd .nil (some (fi Tryz.f113)) .nil))) none (.nd (.nd (.nd (.nd .nil (some (fi Tryz.f137)) .nil) none .nil) (some (fi Tryz.f41)) (.nd .nil (some (fi Tryz.f105)) .nil)) none (.nd (.nd .nil (some (fi Tryz.f89)) .nil) (some (fi Tryz.f57)) (.nd .nil (some (fi Tryz.f121)) .nil)))) none (.nd (.nd (.nd (.nd (.nd .nil (some (fi Tryz.f133)) .nil) (some (fi Tryz.f69)) .nil) none (.nd .nil (some (fi Tryz.f101)) .nil)) none (.nd (.nd .nil (some (fi Tryz.f85)) .nil) (some (fi Tryz.f53)) (.nd .nil (some (fi Tryz.f117)) .nil))) none (.nd (.nd (.nd .nil (some (fi Tryz.f77)) .nil) none (.nd .nil (some (fi Tryz.f109)) .nil)) (some (fi Tryz.f29)) (.nd (.nd .nil (some (fi Tryz.f93)) .nil) none (.nd .nil (some (fi Tryz.f125)) .nil)))))) none (.nd (.nd (.nd (.nd (.nd (.nd (.nd .nil (some (fi Tryz.f128)) .nil) (some (fi Tryz.f64)) .nil) none (.nd .nil (some (fi Tryz.f96)) .nil)) (some (fi Tryz.f16)) (.nd (.nd .nil (some (fi Tryz.f80)) .nil) (some (fi Tryz.f48)) (.nd .nil (some (fi Tryz.f112)) .nil))) none (.nd (.nd (.nd (.nd .nil (some (fi Tryz.f136)) .nil) (some (fi Tryz.f72)) .nil) none (.nd .nil (some (fi Tryz.f104)) .nil)) none (.nd (.nd .nil (some (fi Tryz.f88)) .nil) (some (fi Tryz.f56)) (.nd .nil (some (fi Tryz.f120)) .nil)))) none (.nd (.nd (.nd (.nd (.nd .nil (some (fi Tryz.f132)) .nil) (some (fi Tryz.f68)) .nil) (some (fi Tryz.f36)) (.nd .nil (some (fi Tryz.f100)) .nil)) none (.nd (.nd .nil (some (fi Tryz.f84)) .nil) (some (fi Tryz.f52)) (.nd .nil (some (fi Tryz.f116)) .nil))) (some (fi Tryz.f12)) (.nd (.nd (.nd .nil (some (fi Tryz.f76)) .nil) none (.nd .nil (some (fi Tryz.f108)) .nil)) none (.nd (.nd .nil (some (fi Tryz.f92)) .nil) (some (fi Tryz.f60)) (.nd .nil (some (fi Tryz.f124)) .nil))))) none (.nd (.nd (.nd (.nd (.nd (.nd .nil (some (fi Tryz.f130)) .nil) (some (fi Tryz.f66)) .nil) none (.nd .nil (some (fi Tryz.f98)) .nil)) none (.nd (.nd .nil (some (fi Tryz.f82)) .nil) (some (fi Tryz.f50)) (.nd .nil (some (fi Tryz.f114)) .nil))) none (.nd (.nd (.nd (.nd .nil (some (fi Tryz.f138)) .nil) none .nil) (some (fi Tryz.f42)) (.nd .nil (some (fi Tryz.f106)) .nil)) (some (fi Tryz.f26)) (.nd (.nd .nil (some (fi Tryz.f90)) .nil) (some (fi Tryz.f58)) (.nd .nil (some (fi Tryz.f122)) .nil)))) none (.nd (.nd (.nd (.nd (.nd .nil (some (fi Tryz.f134)) .nil) (some (fi Tryz.f70)) .nil) none (.nd .nil (some (fi Tryz.f102)) .nil)) none (.nd (.nd .nil (some (fi Tryz.f86)) .nil) (some (fi Tryz.f54)) (.nd .nil (some (fi Tryz.f118)) .nil))) none (.nd (.nd (.nd .nil (some (fi Tryz.f78)) .nil) none (.nd .nil (some (fi Tryz.f110)) .nil)) none (.nd (.nd .nil (some (fi Tryz.f94)) .nil) none (.nd .nil (some (fi Tryz.f126)) .nil))))))), []⟩
noncomputable def tabLst : List (Nat × FI) := [(12, fi Tryz.f12), (15, fi Tryz.f15), (16, fi Tryz.f16), (17, fi Tryz.f17), (26, fi Tryz.f26), (27, fi Tryz.f27), (29, fi Tryz.f29), (36, fi Tryz.f36), (41, fi Tryz.f41), (42, fi Tryz.f42), (48, fi Tryz.f48), (49, fi Tryz.f49), (50, fi Tryz.f50), (51, fi Tryz.f51), (52, fi Tryz.f52), (53, fi Tryz.f53), (54, fi Tryz.f54), (55, fi Tryz.f55), (56, fi Tryz.f56), (57, fi Tryz.f57), (58, fi Tryz.f58), (59, fi Tryz.f59), (60, fi Tryz.f60), (63, fi Tryz.f63), (64, fi Tryz.f64), (65, fi Tryz.f65), (66, fi Tryz.f66), (67, fi Tryz.f67), (68, fi Tryz.f68), (69, fi Tryz.f69), (70, fi Tryz.f70), (71, fi Tryz.f71), (72, fi Tryz.f72), (75, fi Tryz.f75), (76, fi Tryz.f76), (77, fi Tryz.f77), (78, fi Tryz.f78), (79, fi Tryz.f79), (80, fi Tryz.f80), (81, fi Tryz.f81), (82, fi Tryz.f82), (83, fi Tryz.f83), (84, fi Tryz.f84), (85, fi Tryz.f85), (86, fi Tryz.f86), (87, fi Tryz.f87), (88, fi Tryz.f88), (89, fi Tryz.f89), (90, fi Tryz.f90), (91, fi Tryz.f91), (92, fi Tryz.f92), (93, fi Tryz.f93), (94, fi Tryz.f94), (95, fi Tryz.f95), (96, fi Tryz.f96), (97, fi Tryz.f97), (98, fi Tryz.f98), (99, fi Tryz.f99), (100, fi Tryz.f100), (101, fi Tryz.f101), (102, fi Tryz.f102), (103, fi Tryz.f103), (104, fi Tryz.f104), (105, fi Tryz.f105), (106, fi Tryz.f106), (107, fi Tryz.f107), (108, fi Tryz.f108), (109, fi Tryz.f109), (110, fi Tryz.f110), (111, fi Tryz.f111), (112, fi Tryz.f112), (113, fi Tryz.f113), (114, fi Tryz.f114), (115, fi Tryz.f115), (116, fi Tryz.f116), (117, fi Tryz.f117), (118, fi Tryz.f118), (119, fi Tryz.f119), (120, fi Tryz.f120), (121, fi Tryz.f121), (122, fi Tryz.f122), (123, fi Tryz.f123), (124, fi Tryz.f124), (125, fi Tryz.f125), (126, fi Tryz.f126), (127, fi Tryz.f127), (128, fi Tryz.f128), (129, fi Tryz.f129), (130, fi Tryz.f130), (131, fi Tryz.f131), (132, fi Tryz.f132), (133, fi Tryz.f133), (134, fi Tryz.f134), (135, fi Tryz.f135), (136, fi Tryz.f136), (137, fi Tryz.f137), (138, fi Tryz.f138)]
theorem tab_eq : tabT = tabL tabLst := by kernel_rfl
theorem mixedK : Tryz.prog.follows .mixedOrders = true := by kernel_rfl
theorem tab_ok : TabOk Tryz.prog tabT := by
 rw [tab_eq]
 exact
  tok_cons (enters_of Tryz.func12 (by kernel_rfl) rfl) Tryz.func12 rfl (by kernel_rfl) <|
  tok_cons (enters_of Tryz.func15 (by kernel_rfl) rfl) Tryz.func15 rfl (by kernel_rfl) <|
  tok_cons (enters_of Tryz.func16 (by kernel_rfl) rfl) Tryz.func16 rfl (by kernel_rfl) <|
  tok_cons (enters_of Tryz.func17 (by kernel_rfl) rfl) Tryz.func17 rfl (by kernel_rfl) <|
  tok_cons (enters_of Tryz.func26 (by kernel_rfl) rfl) Tryz.func26 rfl (by kernel_rfl) <|
  tok_cons (enters_of Tryz.func27 (by kernel_rfl) rfl) Tryz.func27 rfl (by kernel_rfl) <|
  tok_cons (enters_of Tryz.func29 (by kernel_rfl) rfl) Tryz.func29 rfl (by kernel_rfl) <|
  tok_cons (enters_of Tryz.func36 (by kernel_rfl) rfl) Tryz.func36 rfl (by kernel_rfl) <|
  tok_cons (enters_of Tryz.func41 (by kernel_rfl) rfl) Tryz.func41 rfl (by kernel_rfl) <|
  tok_cons (enters_of Tryz.func42 (by kernel_rfl) rfl) Tryz.func42 rfl (by kernel_rfl) <|
  tok_cons (enters_of Tryz.func48 (by kernel_rfl) rfl) Tryz.func48 rfl (by kernel_rfl) <|
  tok_cons (enters_of Tryz.func49 (by kernel_rfl) rfl) Tryz.func49 rfl (by kernel_rfl) <|
  tok_cons (enters_of Tryz.func50 (by kernel_rfl) rfl) Tryz.func50 rfl (by kernel_rfl) <|
  tok_cons (enters_of Tryz.func51 (by kernel_rfl) rfl) Tryz.func51 rfl (by kernel_rfl) <|
  tok_cons (enters_of Tryz.func52 (by kernel_rfl) rfl) Tryz.func52 rfl (by kernel_rfl) <|
  tok_cons (enters_of Tryz.func53 (by kernel_rfl) rfl) Tryz.func53 rfl (by kernel_rfl) <|
  tok_cons (enters_of Tryz.func54 (by kernel_rfl) rfl) Tryz.func54 rfl (by kernel_rfl) <|
  tok_cons (enters_of Tryz.func55 (by kernel_rfl) rfl) Tryz.func55 rfl (by kernel_rfl) <|
  tok_cons (enters_of Tryz.func56 (by kernel_rfl) rfl) Tryz.func56 rfl (by kernel_rfl) <|
  tok_cons (enters_of Tryz.func57 (by kernel_rfl) rfl) Tryz.func57 rfl (by kernel_rfl) <|
  tok_cons (enters_of Tryz.func58 (by kernel_rfl) rfl) Tryz.func58 rfl (by kernel_rfl) <|
  tok_cons (enters_of Tryz.func59 (by kernel_rfl) rfl) Tryz.func59 rfl (by kernel_rfl) <|
  tok_cons (enters_of Tryz.func60 (by kernel_rfl) rfl) Tryz.func60 rfl (by kernel_rfl) <|
  tok_cons (enters_of Tryz.func63 (by kernel_rfl) rfl) Tryz.func63 rfl (by kernel_rfl) <|
  tok_cons (enters_of Tryz.func64 (by kernel_rfl) rfl) Tryz.func64 rfl (by kernel_rfl) <|
  tok_cons (enters_of Tryz.func65 (by kernel_rfl) rfl) Tryz.func65 rfl (by kernel_rfl) <|
  tok_cons (enters_of Tryz.func66 (by kernel_rfl) rfl) Tryz.func66 rfl (by kernel_rfl) <|
  tok_cons (enters_of Tryz.func67 (by kernel_rfl) rfl) Tryz.func67 rfl (by kernel_rfl) <|
  tok_cons (enters_of Tryz.func68 (by kernel_rfl) rfl) Tryz.func68 rfl (by kernel_rfl) <|
  tok_cons (enters_of Tryz.func69 (by kernel_rfl) rfl) Tryz.func69 rfl (by kernel_rfl) <|
  tok_cons (enters_of Tryz.func70 (by kernel_rfl) rfl) Tryz.func70 rfl (by kernel_rfl) <|
  tok_cons (enters_of Tryz.func71 (by kernel_rfl) rfl) Tryz.func71 rfl (by kernel_rfl) <|
  tok_cons (enters_of Tryz.func72 (by kernel_rfl) rfl) Tryz.func72 rfl (by kernel_rfl) <|
  tok_cons (enters_of Tryz.func75 (by kernel_rfl) rfl) Tryz.func75 rfl (by kernel_rfl) <|
  tok_cons (enters_of Tryz.func76 (by kernel_rfl) rfl) Tryz.func76 rfl (by kernel_rfl) <|
  tok_cons (enters_of Tryz.func77 (by kernel_rfl) rfl) Tryz.func77 rfl (by kernel_rfl) <|
  tok_cons (enters_of Tryz.func78 (by kernel_rfl) rfl) Tryz.func78 rfl (by kernel_rfl) <|
  tok_cons (enters_of Tryz.func79 (by kernel_rfl) rfl) Tryz.func79 rfl (by kernel_rfl) <|
  tok_cons (enters_of Tryz.func80 (by kernel_rfl) rfl) Tryz.func80 rfl (by kernel_rfl) <|
  tok_cons (enters_of Tryz.func81 (by kernel_rfl) rfl) Tryz.func81 rfl (by kernel_rfl) <|
  tok_cons (enters_of Tryz.func82 (by kernel_rfl) rfl) Tryz.func82 rfl (by kernel_rfl) <|
  tok_cons (enters_of Tryz.func83 (by kernel_rfl) rfl) Tryz.func83 rfl (by kernel_rfl) <|
  tok_cons (enters_of Tryz.func84 (by kernel_rfl) rfl) Tryz.func84 rfl (by kernel_rfl) <|
  tok_cons (enters_of Tryz.func85 (by kernel_rfl) rfl) Tryz.func85 rfl (by kernel_rfl) <|
  tok_cons (enters_of Tryz.func86 (by kernel_rfl) rfl) Tryz.func86 rfl (by kernel_rfl) <|
  tok_cons (enters_of Tryz.func87 (by kernel_rfl) rfl) Tryz.func87 rfl (by kernel_rfl) <|
  tok_cons (enters_of Tryz.func88 (by kernel_rfl) rfl) Tryz.func88 rfl (by kernel_rfl) <|
  tok_cons (enters_of Tryz.func89 (by kernel_rfl) rfl) Tryz.func89 rfl (by kernel_rfl) <|
  tok_cons (enters_of Tryz.func90 (by kernel_rfl) rfl) Tryz.func90 rfl (by kernel_rfl) <|
  tok_cons (enters_of Tryz.func91 (by kernel_rfl) rfl) Tryz.func91 rfl (by kernel_rfl) <|
  tok_cons (enters_of Tryz.func92 (by kernel_rfl) rfl) Tryz.func92 rfl (by kernel_rfl) <|
  tok_cons (enters_of Tryz.func93 (by kernel_rfl) rfl) Tryz.func93 rfl (by kernel_rfl) <|
  tok_cons (enters_of Tryz.func94 (by kernel_rfl) rfl) Tryz.func94 rfl (by kernel_rfl) <|
  tok_cons (enters_of Tryz.func95 (by kernel_rfl) rfl) Tryz.func95 rfl (by kernel_rfl) <|
  tok_cons (enters_of Tryz.func96 (by kernel_rfl) rfl) Tryz.func96 rfl (by kernel_rfl) <|
  tok_cons (enters_of Tryz.func97 (by kernel_rfl) rfl) Tryz.func97 rfl (by kernel_rfl) <|
  tok_cons (enters_of Tryz.func98 (by kernel_rfl) rfl) Tryz.func98 rfl (by kernel_rfl) <|
  tok_cons (enters_of Tryz.func99 (by kernel_rfl) rfl) Tryz.func99 rfl (by kernel_rfl) <|
  tok_cons (enters_of Tryz.func100 (by kernel_rfl) rfl) Tryz.func100 rfl (by kernel_rfl) <|
  tok_cons (enters_of Tryz.func101 (by kernel_rfl) rfl) Tryz.func101 rfl (by kernel_rfl) <|
  tok_cons (enters_of Tryz.func102 (by kernel_rfl) rfl) Tryz.func102 rfl (by kernel_rfl) <|
  tok_cons (enters_of Tryz.func103 (by kernel_rfl) rfl) Tryz.func103 rfl (by kernel_rfl) <|
  tok_cons (enters_of Tryz.func104 (by kernel_rfl) rfl) Tryz.func104 rfl (by kernel_rfl) <|
  tok_cons (enters_of Tryz.func105 (by kernel_rfl) rfl) Tryz.func105 rfl (by kernel_rfl) <|
  tok_cons (enters_of Tryz.func106 (by kernel_rfl) rfl) Tryz.func106 rfl (by kernel_rfl) <|
  tok_cons (enters_of Tryz.func107 (by kernel_rfl) rfl) Tryz.func107 rfl (by kernel_rfl) <|
  tok_cons (enters_of Tryz.func108 (by kernel_rfl) rfl) Tryz.func108 rfl (by kernel_rfl) <|
  tok_cons (enters_of Tryz.func109 (by kernel_rfl) rfl) Tryz.func109 rfl (by kernel_rfl) <|
  tok_cons (enters_of Tryz.func110 (by kernel_rfl) rfl) Tryz.func110 rfl (by kernel_rfl) <|
  tok_cons (enters_of Tryz.func111 (by kernel_rfl) rfl) Tryz.func111 rfl (by kernel_rfl) <|
  tok_cons (enters_of Tryz.func112 (by kernel_rfl) rfl) Tryz.func112 rfl (by kernel_rfl) <|
  tok_cons (enters_of Tryz.func113 (by kernel_rfl) rfl) Tryz.func113 rfl (by kernel_rfl) <|
  tok_cons (enters_of Tryz.func114 (by kernel_rfl) rfl) Tryz.func114 rfl (by kernel_rfl) <|
  tok_cons (enters_of Tryz.func115 (by kernel_rfl) rfl) Tryz.func115 rfl (by kernel_rfl) <|
  tok_cons (enters_of Tryz.func116 (by kernel_rfl) rfl) Tryz.func116 rfl (by kernel_rfl) <|
  tok_cons (enters_of Tryz.func117 (by kernel_rfl) rfl) Tryz.func117 rfl (by kernel_rfl) <|
  tok_cons (enters_of Tryz.func118 (by kernel_rfl) rfl) Tryz.func118 rfl (by kernel_rfl) <|
  tok_cons (enters_of Tryz.func119 (by kernel_rfl) rfl) Tryz.func119 rfl (by kernel_rfl) <|
  tok_cons (enters_of Tryz.func120 (by kernel_rfl) rfl) Tryz.func120 rfl (by kernel_rfl) <|
  tok_cons (enters_of Tryz.func121 (by kernel_rfl) rfl) Tryz.func121 rfl (by kernel_rfl) <|
  tok_cons (enters_of Tryz.func122 (by kernel_rfl) rfl) Tryz.func122 rfl (by kernel_rfl) <|
  tok_cons (enters_of Tryz.func123 (by kernel_rfl) rfl) Tryz.func123 rfl (by kernel_rfl) <|
  tok_cons (enters_of Tryz.func124 (by kernel_rfl) rfl) Tryz.func124 rfl (by kernel_rfl) <|
  tok_cons (enters_of Tryz.func125 (by kernel_rfl) rfl) Tryz.func125 rfl (by kernel_rfl) <|
  tok_cons (enters_of Tryz.func126 (by kernel_rfl) rfl) Tryz.func126 rfl (by kernel_rfl) <|
  tok_cons (enters_of Tryz.func127 (by kernel_rfl) rfl) Tryz.func127 rfl (by kernel_rfl) <|
  tok_cons (enters_of Tryz.func128 (by kernel_rfl) rfl) Tryz.func128 rfl (by kernel_rfl) <|
  tok_cons (enters_of Tryz.func129 (by kernel_rfl) rfl) Tryz.func129 rfl (by kernel_rfl) <|
  tok_cons (enters_of Tryz.func130 (by kernel_rfl) rfl) Tryz.func130 rfl (by kernel_rfl) <|
  tok_cons (enters_of Tryz.func131 (by kernel_rfl) rfl) Tryz.func131 rfl (by kernel_rfl) <|
  tok_cons (enters_of Tryz.func132 (by kernel_rfl) rfl) Tryz.func132 rfl (by kernel_rfl) <|
  tok_cons (enters_of Tryz.func133 (by kernel_rfl) rfl) Tryz.func133 rfl (by kernel_rfl) <|
  tok_cons (enters_of Tryz.func134 (by kernel_rfl) rfl) Tryz.func134 rfl (by kernel_rfl) <|
  tok_cons (enters_of Tryz.func135 (by kernel_rfl) rfl) Tryz.func135 rfl (by kernel_rfl) <|
  tok_cons (enters_of Tryz.func136 (by kernel_rfl) rfl) Tryz.func136 rfl (by kernel_rfl) <|
  tok_cons (enters_of Tryz.func137 (by kernel_rfl) rfl) Tryz.func137 rfl (by kernel_rfl) <|
  tok_cons (enters_of Tryz.func138 (by kernel_rfl) rfl) Tryz.func138 rfl (by kernel_rfl) <|
  tok_nil
theorem kn12 : (fr Tryz.prog tabT 100000).f false cx0 12 [] S0 (fun v _ => isTrue v) = true := by kernel_rfl
theorem wkK12 {gI : Gh} {wI : World} : Fn Tryz.prog 12 #[] gI wI (fun _ _ v => v = .bool true) := fn_fast mixedK tab_ok kn12
end Go.Proofs.YtkmbkaoolacofaaGreat
