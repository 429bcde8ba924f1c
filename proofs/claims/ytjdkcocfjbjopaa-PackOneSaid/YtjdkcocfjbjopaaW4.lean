/- The walks of the laws of layer 1 that make no reader. -/
import Derived.Test.YtjdkcocfjbjopaaW1
import Derived.Test.YtjdkcocfjbjopaaW3
import Derived.Test.YtjdkcocfjbjopaaArg
set_option maxRecDepth 20000
namespace Go.Proofs.Ytjdkcocfjbjopaa
open Go.ChangeShapes Go.WideShapes Go.ChangeAt Go.RowKit Go.Hd

section
variable {H : Type} {enc : TypeId × Value → H} {W : World} {base : Nat}
end
end Go.Proofs.Ytjdkcocfjbjopaa
