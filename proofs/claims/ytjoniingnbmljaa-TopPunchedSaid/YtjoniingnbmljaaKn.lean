/- Closed calls, run by the machine of plain data. -/
import Derived.Test.YtjoniingnbmljaaFb
import Derived.Test.YtjoniingnbmljaaProg
namespace Go.Proofs.Ytjoniingnbmljaa
open Go.RowKit
set_option maxRecDepth 100000
noncomputable def tabT : Tab := ⟨(.nd (.nd (.nd (.nd (.nd (.nd (.nd .nil none (.nd .nil (some (fi Try.f191)) .nil)) none .nil) none (.nd .nil none (.nd .nil (some (fi Try.f111)) .nil))) none (.nd (.nd .nil none (.nd .nil (some (fi Try.f103)) .nil)) none (.nd (.nd (.nd .nil (some (fi Try.f151)) .nil) none .nil) none (.nd .nil none (.nd .nil (some (fi Try.f247)) .nil))))) none (.nd (.nd .nil none (.nd .nil none (.nd (.nd .nil (some (fi Try.f179)) .nil) none (.nd .nil (some (fi Try.f243)) .nil)))) none (.nd (.nd .nil none (.nd .nil (some (fi Try.f107)) .nil)) none (.nd .nil none (.nd .nil none (.nd .nil (some (fi Try.f251)) .nil)))))) none (.nd (.nd (.nd (.nd (.nd (.nd (.nd .nil (some (fi Try.f257)) .nil) (some (fi Try.f129)) .nil) none (.nd .nil (some (fi Try.f193)) .nil)) none .nil) none (.nd .nil none (.nd .nil (some (fi Try.f113)) .nil))) none (.nd (.nd (.nd .nil none (.nd .nil (some (fi Try.f201)) .nil)) none .nil) none (.nd (.nd (.nd (.nd .nil (some (fi Try.f281)) .nil) none .nil) none .nil) none (.nd .nil none (.nd .nil (some (fi Try.f249)) .nil))))) none (.nd (.nd (.nd .nil none (.nd (.nd .nil (some (fi Try.f165)) .nil) none .nil)) none (.nd (.nd (.nd (.nd .nil (some (fi Try.f277)) .nil) none .nil) none .nil) none (.nd (.nd (.nd .nil (some (fi Try.f309)) .nil) none .nil) none (.nd .nil (some (fi Try.f245)) .nil)))) (some (fi Try.f13)) (.nd (.nd .nil (some (fi Try.f45)) (.nd .nil (some (fi Try.f109)) .nil)) none (.nd .nil (some (fi Try.f61)) (.nd (.nd .nil (some (fi Try.f189)) .nil) (some (fi Try.f125)) .nil)))))) none (.nd (.nd (.nd (.nd (.nd (.nd .nil none (.nd .nil (some (fi Try.f192)) .nil)) none .nil) none (.nd .nil none (.nd .nil (some (fi Try.f112)) .nil))) none (.nd (.nd .nil (some (fi Try.f40)) .nil) none .nil)) none (.nd (.nd .nil none (.nd .nil none (.nd .nil none (.nd .nil (some (fi Try.f244)) .nil)))) none .nil)) none (.nd (.nd (.nd .nil none (.nd .nil none (.nd .nil (some (fi Try.f114)) .nil))) none (.nd .nil none (.nd .nil none (.nd .nil none (.nd .nil (some (fi Try.f250)) .nil))))) none (.nd (.nd (.nd .nil none (.nd .nil (some (fi Try.f102)) .nil)) none (.nd (.nd (.nd (.nd .nil (some (fi Try.f278)) .nil) none .nil) none .nil) none (.nd .nil none (.nd .nil (some (fi Try.f246)) .nil)))) none (.nd (.nd .nil none (.nd .nil (some (fi Try.f110)) .nil)) none .nil))))), []⟩
noncomputable def tabLst : List (Nat × FI) := [(13, fi Try.f13), (40, fi Try.f40), (45, fi Try.f45), (61, fi Try.f61), (102, fi Try.f102), (103, fi Try.f103), (107, fi Try.f107), (109, fi Try.f109), (110, fi Try.f110), (111, fi Try.f111), (112, fi Try.f112), (113, fi Try.f113), (114, fi Try.f114), (125, fi Try.f125), (129, fi Try.f129), (151, fi Try.f151), (165, fi Try.f165), (179, fi Try.f179), (189, fi Try.f189), (191, fi Try.f191), (192, fi Try.f192), (193, fi Try.f193), (201, fi Try.f201), (243, fi Try.f243), (244, fi Try.f244), (245, fi Try.f245), (246, fi Try.f246), (247, fi Try.f247), (249, fi Try.f249), (250, fi Try.f250), (251, fi Try.f251), (257, fi Try.f257), (277, fi Try.f277), (278, fi Try.f278), (281, fi Try.f281), (309, fi Try.f309)]
theorem tab_eq : tabT = tabL tabLst := by kernel_rfl
theorem mixedK : Try.prog.follows .mixedOrders = true := by kernel_rfl
theorem tab_ok : TabOk Try.prog tabT := by
 rw [tab_eq]
 exact
  tok_cons (enters_of Try.func13 (by kernel_rfl) rfl) Try.func13 rfl (by kernel_rfl) <|
  tok_cons (enters_of Try.func40 (by kernel_rfl) rfl) Try.func40 rfl (by kernel_rfl) <|
  tok_cons (enters_of Try.func45 (by kernel_rfl) rfl) Try.func45 rfl (by kernel_rfl) <|
  tok_cons (enters_of Try.func61 (by kernel_rfl) rfl) Try.func61 rfl (by kernel_rfl) <|
  tok_cons (enters_of Try.func102 (by kernel_rfl) rfl) Try.func102 rfl (by kernel_rfl) <|
  tok_cons (enters_of Try.func103 (by kernel_rfl) rfl) Try.func103 rfl (by kernel_rfl) <|
  tok_cons (enters_of Try.func107 (by kernel_rfl) rfl) Try.func107 rfl (by kernel_rfl) <|
  tok_cons (enters_of Try.func109 (by kernel_rfl) rfl) Try.func109 rfl (by kernel_rfl) <|
  tok_cons (enters_of Try.func110 (by kernel_rfl) rfl) Try.func110 rfl (by kernel_rfl) <|
  tok_cons (enters_of Try.func111 (by kernel_rfl) rfl) Try.func111 rfl (by kernel_rfl) <|
  tok_cons (enters_of Try.func112 (by kernel_rfl) rfl) Try.func112 rfl (by kernel_rfl) <|
  tok_cons (enters_of Try.func113 (by kernel_rfl) rfl) Try.func113 rfl (by kernel_rfl) <|
  tok_cons (enters_of Try.func114 (by kernel_rfl) rfl) Try.func114 rfl (by kernel_rfl) <|
  tok_cons (enters_of Try.func125 (by kernel_rfl) rfl) Try.func125 rfl (by kernel_rfl) <|
  tok_cons (enters_of Try.func129 (by kernel_rfl) rfl) Try.func129 rfl (by kernel_rfl) <|
  tok_cons (enters_of Try.func151 (by kernel_rfl) rfl) Try.func151 rfl (by kernel_rfl) <|
  tok_cons (enters_of Try.func165 (by kernel_rfl) rfl) Try.func165 rfl (by kernel_rfl) <|
  tok_cons (enters_of Try.func179 (by kernel_rfl) rfl) Try.func179 rfl (by kernel_rfl) <|
  tok_cons (enters_of Try.func189 (by kernel_rfl) rfl) Try.func189 rfl (by kernel_rfl) <|
  tok_cons (enters_of Try.func191 (by kernel_rfl) rfl) Try.func191 rfl (by kernel_rfl) <|
  tok_cons (enters_of Try.func192 (by kernel_rfl) rfl) Try.func192 rfl (by kernel_rfl) <|
  tok_cons (enters_of Try.func193 (by kernel_rfl) rfl) Try.func193 rfl (by kernel_rfl) <|
  tok_cons (enters_of Try.func201 (by kernel_rfl) rfl) Try.func201 rfl (by kernel_rfl) <|
  tok_cons (enters_of Try.func243 (by kernel_rfl) rfl) Try.func243 rfl (by kernel_rfl) <|
  tok_cons (enters_of Try.func244 (by kernel_rfl) rfl) Try.func244 rfl (by kernel_rfl) <|
  tok_cons (enters_of Try.func245 (by kernel_rfl) rfl) Try.func245 rfl (by kernel_rfl) <|
  tok_cons (enters_of Try.func246 (by kernel_rfl) rfl) Try.func246 rfl (by kernel_rfl) <|
  tok_cons (enters_of Try.func247 (by kernel_rfl) rfl) Try.func247 rfl (by kernel_rfl) <|
  tok_cons (enters_of Try.func249 (by kernel_rfl) rfl) Try.func249 rfl (by kernel_rfl) <|
  tok_cons (enters_of Try.func250 (by kernel_rfl) rfl) Try.func250 rfl (by kernel_rfl) <|
  tok_cons (enters_of Try.func251 (by kernel_rfl) rfl) Try.func251 rfl (by kernel_rfl) <|
  tok_cons (enters_of Try.func257 (by kernel_rfl) rfl) Try.func257 rfl (by kernel_rfl) <|
  tok_cons (enters_of Try.func277 (by kernel_rfl) rfl) Try.func277 rfl (by kernel_rfl) <|
  tok_cons (enters_of Try.func278 (by kernel_rfl) rfl) Try.func278 rfl (by kernel_rfl) <|
  tok_cons (enters_of Try.func281 (by kernel_rfl) rfl) Try.func281 rfl (by kernel_rfl) <|
  tok_cons (enters_of Try.func309 (by kernel_rfl) rfl) Try.func309 rfl (by kernel_rfl) <|
  tok_nil
theorem kn40 : (fr Try.prog tabT 100000).f false cx0 40 [] S0 (fun v _ => isTrue v) = true := by kernel_rfl
theorem wkK40 {gI : Gh} {wI : World} : Fn Try.prog 40 #[] gI wI (fun _ _ v => v = .bool true) := fn_fast mixedK tab_ok kn40
theorem kn61 : (fr Try.prog tabT 100000).f false cx0 61 [] S0 (fun v _ => isTrue v) = true := by kernel_rfl
theorem wkK61 {gI : Gh} {wI : World} : Fn Try.prog 61 #[] gI wI (fun _ _ v => v = .bool true) := fn_fast mixedK tab_ok kn61
end Go.Proofs.Ytjoniingnbmljaa
