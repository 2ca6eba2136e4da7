import Derived.Test.YthjochcbdhiclaaGreatAbDefs
namespace Go.Ab
section
variable {t : Ty}
def cfOf (S : den (.prod t (.prod t .unit)) → Option (Int × Unit)) (a b : den t) : Int := match S (a, b, ()) with | some r => r.1 | none => 0
def ltS (S : den (.prod t (.prod t .unit)) → Option (Int × Unit)) (a b : den t) : Bool := decide (cfOf S a b < 0)
structure SortOK (S : den (.prod t (.prod t .unit)) → Option (Int × Unit)) : Prop where
  tot : ∀ a b, ∃ n, S (a, b, ()) = some (n, ())
  irrefl : ∀ x, ltS S x x = false
  trans : ∀ x y z, ltS S x y = true → ltS S y z = true → ltS S x z = true
  ntrans : ∀ x y z, ltS S x y = false → ltS S y z = false → ltS S x z = false
  anti : ∀ x y, ltS S x y = false → ltS S y x = false → x = y
noncomputable def sortS (S : den (.prod t (.prod t .unit)) → Option (Int × Unit)) (x : List (den t) × Unit) : Option (List (den t) × Unit) :=
  open Classical in if SortOK S ∧ x.1.length < 4611686018427387904 then some (x.1.mergeSort fun a b => !ltS S b a, ()) else none
end
end Go.Ab
