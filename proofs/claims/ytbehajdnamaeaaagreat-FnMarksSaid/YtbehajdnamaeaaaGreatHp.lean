import Derived.Test.YtbehajdnamaeaaaGreatHd
import Derived.Test.YtbehajdnamaeaaaGreatAbPk
set_option linter.all false
namespace Go.Ab
abbrev A1:=Int×Int×Unit
abbrev A2:=Int×Int×Int×Int×Int×Unit
abbrev A3:=Int×Int×Int×Int×Int×Int×Int×List A1×List A1×Unit
abbrev A4:=List (List A2)×Unit
abbrev A5:=Bool×A4×List A3×List A1×List A1×Int×Unit
abbrev A6:=Int×Int×Int×Int×Int×Int×Unit
abbrev A7:=List (List A2)×List A3×List A1×List A1×Unit
abbrev A8:=List A3×List A1×List A1×Unit
abbrev A9:=List A1×List A1×Unit
abbrev B4:=Int×Int×Int×Int×Unit
abbrev B3:=Int×Int×Int×Unit
theorem hcA (n:Nat){es:List Ent}(he:∀e∈es,Ao Go.Proofs.Tryz.prog e):CfgOK Go.Proofs.Tryz.prog {ti:=Bw,ents:=es,ann:=[],lent:=n}:=aU RN Xy he
theorem hcB {C:Cfg}(he:∀e∈C.ents,Ao Go.Proofs.Tryz.prog e)(ht:C.ti=Bw:=by rfl):CfgOK Go.Proofs.Tryz.prog C:=aU (ht▸RN) Xy he
end Go.Ab
