/- Closed calls, run by the machine of plain data. -/
import Derived.Test.YtmpjooneiaiffaaFb
import Derived.Test.YtmpjooneiaiffaaProg
namespace Go.Proofs.Ytmpjooneiaiffaa
open Go.RowKit
set_option maxRecDepth 100000
noncomputable def tabT:Tab:=⟨(.nd (.nd (.nd (.nd (.nd (.nd (.nd (.nd .nil (some (fi Try.f127)) .nil) (some (fi Try.f63)) .nil) none (.nd .nil (some (fi Try.f95)) .nil)) none (.nd (.nd .nil (some (fi Try.f79)) .nil) none (.nd .nil (some (fi Try.f111)) .nil))) none (.nd (.nd (.nd .nil (some (fi Try.f71)) .nil) none (.nd .nil (some (fi Try.f103)) .nil)) none (.nd (.nd .nil (some (fi Try.f87)) .nil) (some (fi Try.f55)) (.nd .nil (some (fi Try.f119)) .nil)))) none (.nd (.nd (.nd (.nd .nil (some (fi Try.f67)) .nil) none (.nd .nil (some (fi Try.f99)) .nil)) (some (fi Try.f19)) (.nd (.nd .nil (some (fi Try.f83)) .nil) (some (fi Try.f51)) (.nd .nil (some (fi Try.f115)) .nil))) none (.nd (.nd (.nd .nil (some (fi Try.f75)) .nil) (some (fi Try.f43)) (.nd .nil (some (fi Try.f107)) .nil)) none (.nd (.nd .nil (some (fi Try.f91)) .nil) none (.nd .nil (some (fi Try.f123)) .nil))))) none (.nd (.nd (.nd (.nd (.nd .nil (some (fi Try.f65)) .nil) none (.nd .nil (some (fi Try.f97)) .nil)) (some (fi Try.f17)) (.nd (.nd .nil (some (fi Try.f81)) .nil) (some (fi Try.f49)) (.nd .nil (some (fi Try.f113)) .nil))) none (.nd (.nd (.nd .nil (some (fi Try.f73)) .nil) none (.nd .nil (some (fi Try.f105)) .nil)) (some (fi Try.f25)) (.nd .nil (some (fi Try.f57)) (.nd .nil (some (fi Try.f121)) .nil)))) none (.nd (.nd (.nd .nil none (.nd .nil (some (fi Try.f101)) .nil)) none (.nd (.nd .nil (some (fi Try.f85)) .nil) (some (fi Try.f53)) (.nd .nil (some (fi Try.f117)) .nil))) none (.nd (.nd .nil none (.nd .nil (some (fi Try.f109)) .nil)) (some (fi Try.f29)) (.nd (.nd .nil (some (fi Try.f93)) .nil) none (.nd .nil (some (fi Try.f125)) .nil)))))) none (.nd (.nd (.nd (.nd (.nd (.nd .nil (some (fi Try.f64)) .nil) none (.nd .nil (some (fi Try.f96)) .nil)) none (.nd (.nd .nil (some (fi Try.f80)) .nil) (some (fi Try.f48)) (.nd .nil (some (fi Try.f112)) .nil))) none (.nd (.nd (.nd .nil (some (fi Try.f72)) .nil) (some (fi Try.f40)) (.nd .nil (some (fi Try.f104)) .nil)) none (.nd (.nd .nil (some (fi Try.f88)) .nil) (some (fi Try.f56)) (.nd .nil (some (fi Try.f120)) .nil)))) none (.nd (.nd (.nd .nil (some (fi Try.f36)) (.nd .nil (some (fi Try.f100)) .nil)) none (.nd (.nd .nil (some (fi Try.f84)) .nil) (some (fi Try.f52)) (.nd .nil (some (fi Try.f116)) .nil))) none (.nd (.nd (.nd .nil (some (fi Try.f76)) .nil) none (.nd .nil (some (fi Try.f108)) .nil)) none (.nd .nil none (.nd .nil (some (fi Try.f124)) .nil))))) none (.nd (.nd (.nd (.nd (.nd .nil (some (fi Try.f66)) .nil) none (.nd .nil (some (fi Try.f98)) .nil)) none (.nd (.nd .nil (some (fi Try.f82)) .nil) none (.nd .nil (some (fi Try.f114)) .nil))) none (.nd (.nd (.nd .nil (some (fi Try.f74)) .nil) (some (fi Try.f42)) (.nd .nil (some (fi Try.f106)) .nil)) none (.nd (.nd .nil (some (fi Try.f90)) .nil) (some (fi Try.f58)) (.nd .nil (some (fi Try.f122)) .nil)))) none (.nd (.nd (.nd (.nd .nil (some (fi Try.f70)) .nil) none (.nd .nil (some (fi Try.f102)) .nil)) none (.nd (.nd .nil (some (fi Try.f86)) .nil) (some (fi Try.f54)) (.nd .nil (some (fi Try.f118)) .nil))) (some (fi Try.f14)) (.nd (.nd (.nd .nil (some (fi Try.f78)) .nil) none (.nd .nil (some (fi Try.f110)) .nil)) (some (fi Try.f30)) (.nd (.nd .nil (some (fi Try.f94)) .nil) (some (fi Try.f62)) (.nd .nil (some (fi Try.f126)) .nil))))))),[]⟩
noncomputable def tabLst:List (Nat × FI):=[(14,fi Try.f14),(17,fi Try.f17),(19,fi Try.f19),(25,fi Try.f25),(29,fi Try.f29),(30,fi Try.f30),(36,fi Try.f36),(40,fi Try.f40),(42,fi Try.f42),(43,fi Try.f43),(48,fi Try.f48),(49,fi Try.f49),(51,fi Try.f51),(52,fi Try.f52),(53,fi Try.f53),(54,fi Try.f54),(55,fi Try.f55),(56,fi Try.f56),(57,fi Try.f57),(58,fi Try.f58),(62,fi Try.f62),(63,fi Try.f63),(64,fi Try.f64),(65,fi Try.f65),(66,fi Try.f66),(67,fi Try.f67),(70,fi Try.f70),(71,fi Try.f71),(72,fi Try.f72),(73,fi Try.f73),(74,fi Try.f74),(75,fi Try.f75),(76,fi Try.f76),(78,fi Try.f78),(79,fi Try.f79),(80,fi Try.f80),(81,fi Try.f81),(82,fi Try.f82),(83,fi Try.f83),(84,fi Try.f84),(85,fi Try.f85),(86,fi Try.f86),(87,fi Try.f87),(88,fi Try.f88),(90,fi Try.f90),(91,fi Try.f91),(93,fi Try.f93),(94,fi Try.f94),(95,fi Try.f95),(96,fi Try.f96),(97,fi Try.f97),(98,fi Try.f98),(99,fi Try.f99),(100,fi Try.f100),(101,fi Try.f101),(102,fi Try.f102),(103,fi Try.f103),(104,fi Try.f104),(105,fi Try.f105),(106,fi Try.f106),(107,fi Try.f107),(108,fi Try.f108),(109,fi Try.f109),(110,fi Try.f110),(111,fi Try.f111),(112,fi Try.f112),(113,fi Try.f113),(114,fi Try.f114),(115,fi Try.f115),(116,fi Try.f116),(117,fi Try.f117),(118,fi Try.f118),(119,fi Try.f119),(120,fi Try.f120),(121,fi Try.f121),(122,fi Try.f122),(123,fi Try.f123),(124,fi Try.f124),(125,fi Try.f125),(126,fi Try.f126),(127,fi Try.f127)]
theorem tab_eq:tabT=tabL tabLst:=by kernel_rfl
theorem mixedK:Try.prog.follows .mixedOrders=true:=by kernel_rfl
theorem tab_ok:TabOk Try.prog tabT:=by
 rw [tab_eq]
 exact
  tok_cons (enters_of Try.func14 (by kernel_rfl) rfl) Try.func14 rfl (by kernel_rfl) <|
  tok_cons (enters_of Try.func17 (by kernel_rfl) rfl) Try.func17 rfl (by kernel_rfl) <|
  tok_cons (enters_of Try.func19 (by kernel_rfl) rfl) Try.func19 rfl (by kernel_rfl) <|
  tok_cons (enters_of Try.func25 (by kernel_rfl) rfl) Try.func25 rfl (by kernel_rfl) <|
  tok_cons (enters_of Try.func29 (by kernel_rfl) rfl) Try.func29 rfl (by kernel_rfl) <|
  tok_cons (enters_of Try.func30 (by kernel_rfl) rfl) Try.func30 rfl (by kernel_rfl) <|
  tok_cons (enters_of Try.func36 (by kernel_rfl) rfl) Try.func36 rfl (by kernel_rfl) <|
  tok_cons (enters_of Try.func40 (by kernel_rfl) rfl) Try.func40 rfl (by kernel_rfl) <|
  tok_cons (enters_of Try.func42 (by kernel_rfl) rfl) Try.func42 rfl (by kernel_rfl) <|
  tok_cons (enters_of Try.func43 (by kernel_rfl) rfl) Try.func43 rfl (by kernel_rfl) <|
  tok_cons (enters_of Try.func48 (by kernel_rfl) rfl) Try.func48 rfl (by kernel_rfl) <|
  tok_cons (enters_of Try.func49 (by kernel_rfl) rfl) Try.func49 rfl (by kernel_rfl) <|
  tok_cons (enters_of Try.func51 (by kernel_rfl) rfl) Try.func51 rfl (by kernel_rfl) <|
  tok_cons (enters_of Try.func52 (by kernel_rfl) rfl) Try.func52 rfl (by kernel_rfl) <|
  tok_cons (enters_of Try.func53 (by kernel_rfl) rfl) Try.func53 rfl (by kernel_rfl) <|
  tok_cons (enters_of Try.func54 (by kernel_rfl) rfl) Try.func54 rfl (by kernel_rfl) <|
  tok_cons (enters_of Try.func55 (by kernel_rfl) rfl) Try.func55 rfl (by kernel_rfl) <|
  tok_cons (enters_of Try.func56 (by kernel_rfl) rfl) Try.func56 rfl (by kernel_rfl) <|
  tok_cons (enters_of Try.func57 (by kernel_rfl) rfl) Try.func57 rfl (by kernel_rfl) <|
  tok_cons (enters_of Try.func58 (by kernel_rfl) rfl) Try.func58 rfl (by kernel_rfl) <|
  tok_cons (enters_of Try.func62 (by kernel_rfl) rfl) Try.func62 rfl (by kernel_rfl) <|
  tok_cons (enters_of Try.func63 (by kernel_rfl) rfl) Try.func63 rfl (by kernel_rfl) <|
  tok_cons (enters_of Try.func64 (by kernel_rfl) rfl) Try.func64 rfl (by kernel_rfl) <|
  tok_cons (enters_of Try.func65 (by kernel_rfl) rfl) Try.func65 rfl (by kernel_rfl) <|
  tok_cons (enters_of Try.func66 (by kernel_rfl) rfl) Try.func66 rfl (by kernel_rfl) <|
  tok_cons (enters_of Try.func67 (by kernel_rfl) rfl) Try.func67 rfl (by kernel_rfl) <|
  tok_cons (enters_of Try.func70 (by kernel_rfl) rfl) Try.func70 rfl (by kernel_rfl) <|
  tok_cons (enters_of Try.func71 (by kernel_rfl) rfl) Try.func71 rfl (by kernel_rfl) <|
  tok_cons (enters_of Try.func72 (by kernel_rfl) rfl) Try.func72 rfl (by kernel_rfl) <|
  tok_cons (enters_of Try.func73 (by kernel_rfl) rfl) Try.func73 rfl (by kernel_rfl) <|
  tok_cons (enters_of Try.func74 (by kernel_rfl) rfl) Try.func74 rfl (by kernel_rfl) <|
  tok_cons (enters_of Try.func75 (by kernel_rfl) rfl) Try.func75 rfl (by kernel_rfl) <|
  tok_cons (enters_of Try.func76 (by kernel_rfl) rfl) Try.func76 rfl (by kernel_rfl) <|
  tok_cons (enters_of Try.func78 (by kernel_rfl) rfl) Try.func78 rfl (by kernel_rfl) <|
  tok_cons (enters_of Try.func79 (by kernel_rfl) rfl) Try.func79 rfl (by kernel_rfl) <|
  tok_cons (enters_of Try.func80 (by kernel_rfl) rfl) Try.func80 rfl (by kernel_rfl) <|
  tok_cons (enters_of Try.func81 (by kernel_rfl) rfl) Try.func81 rfl (by kernel_rfl) <|
  tok_cons (enters_of Try.func82 (by kernel_rfl) rfl) Try.func82 rfl (by kernel_rfl) <|
  tok_cons (enters_of Try.func83 (by kernel_rfl) rfl) Try.func83 rfl (by kernel_rfl) <|
  tok_cons (enters_of Try.func84 (by kernel_rfl) rfl) Try.func84 rfl (by kernel_rfl) <|
  tok_cons (enters_of Try.func85 (by kernel_rfl) rfl) Try.func85 rfl (by kernel_rfl) <|
  tok_cons (enters_of Try.func86 (by kernel_rfl) rfl) Try.func86 rfl (by kernel_rfl) <|
  tok_cons (enters_of Try.func87 (by kernel_rfl) rfl) Try.func87 rfl (by kernel_rfl) <|
  tok_cons (enters_of Try.func88 (by kernel_rfl) rfl) Try.func88 rfl (by kernel_rfl) <|
  tok_cons (enters_of Try.func90 (by kernel_rfl) rfl) Try.func90 rfl (by kernel_rfl) <|
  tok_cons (enters_of Try.func91 (by kernel_rfl) rfl) Try.func91 rfl (by kernel_rfl) <|
  tok_cons (enters_of Try.func93 (by kernel_rfl) rfl) Try.func93 rfl (by kernel_rfl) <|
  tok_cons (enters_of Try.func94 (by kernel_rfl) rfl) Try.func94 rfl (by kernel_rfl) <|
  tok_cons (enters_of Try.func95 (by kernel_rfl) rfl) Try.func95 rfl (by kernel_rfl) <|
  tok_cons (enters_of Try.func96 (by kernel_rfl) rfl) Try.func96 rfl (by kernel_rfl) <|
  tok_cons (enters_of Try.func97 (by kernel_rfl) rfl) Try.func97 rfl (by kernel_rfl) <|
  tok_cons (enters_of Try.func98 (by kernel_rfl) rfl) Try.func98 rfl (by kernel_rfl) <|
  tok_cons (enters_of Try.func99 (by kernel_rfl) rfl) Try.func99 rfl (by kernel_rfl) <|
  tok_cons (enters_of Try.func100 (by kernel_rfl) rfl) Try.func100 rfl (by kernel_rfl) <|
  tok_cons (enters_of Try.func101 (by kernel_rfl) rfl) Try.func101 rfl (by kernel_rfl) <|
  tok_cons (enters_of Try.func102 (by kernel_rfl) rfl) Try.func102 rfl (by kernel_rfl) <|
  tok_cons (enters_of Try.func103 (by kernel_rfl) rfl) Try.func103 rfl (by kernel_rfl) <|
  tok_cons (enters_of Try.func104 (by kernel_rfl) rfl) Try.func104 rfl (by kernel_rfl) <|
  tok_cons (enters_of Try.func105 (by kernel_rfl) rfl) Try.func105 rfl (by kernel_rfl) <|
  tok_cons (enters_of Try.func106 (by kernel_rfl) rfl) Try.func106 rfl (by kernel_rfl) <|
  tok_cons (enters_of Try.func107 (by kernel_rfl) rfl) Try.func107 rfl (by kernel_rfl) <|
  tok_cons (enters_of Try.func108 (by kernel_rfl) rfl) Try.func108 rfl (by kernel_rfl) <|
  tok_cons (enters_of Try.func109 (by kernel_rfl) rfl) Try.func109 rfl (by kernel_rfl) <|
  tok_cons (enters_of Try.func110 (by kernel_rfl) rfl) Try.func110 rfl (by kernel_rfl) <|
  tok_cons (enters_of Try.func111 (by kernel_rfl) rfl) Try.func111 rfl (by kernel_rfl) <|
  tok_cons (enters_of Try.func112 (by kernel_rfl) rfl) Try.func112 rfl (by kernel_rfl) <|
  tok_cons (enters_of Try.func113 (by kernel_rfl) rfl) Try.func113 rfl (by kernel_rfl) <|
  tok_cons (enters_of Try.func114 (by kernel_rfl) rfl) Try.func114 rfl (by kernel_rfl) <|
  tok_cons (enters_of Try.func115 (by kernel_rfl) rfl) Try.func115 rfl (by kernel_rfl) <|
  tok_cons (enters_of Try.func116 (by kernel_rfl) rfl) Try.func116 rfl (by kernel_rfl) <|
  tok_cons (enters_of Try.func117 (by kernel_rfl) rfl) Try.func117 rfl (by kernel_rfl) <|
  tok_cons (enters_of Try.func118 (by kernel_rfl) rfl) Try.func118 rfl (by kernel_rfl) <|
  tok_cons (enters_of Try.func119 (by kernel_rfl) rfl) Try.func119 rfl (by kernel_rfl) <|
  tok_cons (enters_of Try.func120 (by kernel_rfl) rfl) Try.func120 rfl (by kernel_rfl) <|
  tok_cons (enters_of Try.func121 (by kernel_rfl) rfl) Try.func121 rfl (by kernel_rfl) <|
  tok_cons (enters_of Try.func122 (by kernel_rfl) rfl) Try.func122 rfl (by kernel_rfl) <|
  tok_cons (enters_of Try.func123 (by kernel_rfl) rfl) Try.func123 rfl (by kernel_rfl) <|
  tok_cons (enters_of Try.func124 (by kernel_rfl) rfl) Try.func124 rfl (by kernel_rfl) <|
  tok_cons (enters_of Try.func125 (by kernel_rfl) rfl) Try.func125 rfl (by kernel_rfl) <|
  tok_cons (enters_of Try.func126 (by kernel_rfl) rfl) Try.func126 rfl (by kernel_rfl) <|
  tok_cons (enters_of Try.func127 (by kernel_rfl) rfl) Try.func127 rfl (by kernel_rfl) <|
  tok_nil
theorem kn14:(fr Try.prog tabT 100000).f false cx0 14 [] S0 (fun v _=>isTrue v)=true:=by kernel_rfl
theorem wkK14 {gI:Gh} {wI:World}:Fn Try.prog 14 #[] gI wI (fun _ _ v=>v=.bool true):=fn_fast mixedK tab_ok kn14
end Go.Proofs.Ytmpjooneiaiffaa
