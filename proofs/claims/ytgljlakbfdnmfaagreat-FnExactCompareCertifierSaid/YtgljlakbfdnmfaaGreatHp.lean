import Derived.Test.YtgljlakbfdnmfaaGreatHd
import Derived.Test.YtgljlakbfdnmfaaGreatAbPk
set_option linter.all false
namespace Go.Ab
open Go.Proofs.Tryz
abbrev A1:=Int×Int×Unit
abbrev A2:=Int×Int×Int×Int×Int×Unit
abbrev A3:=Int×Int×Int×Int×Int×Int×Int×List A1×List A1×Unit
abbrev A4:=List (List A2)×Unit
abbrev A5:=Bool×A4×List A3×List A1×List A1×Int×Unit
abbrev A6:=Int×Int×Int×Int×Int×Int×Unit
abbrev A7:=List (List A2)×List A3×List A1×List A1×Unit
abbrev A8:=List A3×List A1×List A1×Unit
abbrev A9:=List A1×List A1×Unit
abbrev B4:=Int×Int×Int×Int×Unit
abbrev B3:=Int×Int×Int×Unit
theorem hcA (n:Nat){es:List Ent}(he:∀e∈es,Aj prog e):CfgOK prog {ti:=Az,ents:=es,ann:=[],lent:=n}:=Aiz qP A7v he
theorem hcB {C:Cfg}(he:∀e∈C.ents,Aj prog e)(ht:C.ti=Az:=by rfl):CfgOK prog C:=Aiz (ht▸qP) A7v he
end Go.Ab
