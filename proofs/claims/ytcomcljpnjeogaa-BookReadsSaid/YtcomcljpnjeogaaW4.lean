/- The walks of the laws of layer 1 that make no reader. -/
import Derived.Test.YtcomcljpnjeogaaW1
import Derived.Test.YtcomcljpnjeogaaW3
import Derived.Test.YtcomcljpnjeogaaArg
set_option maxRecDepth 20000
namespace Go.Proofs.Ytcomcljpnjeogaa
open Go.ChangeShapes Go.WideShapes Go.ChangeAt Go.RowKit Go.Hd

section
variable {H : Type} {enc : TypeId × Value → H} {W : World} {base : Nat}
end
end Go.Proofs.Ytcomcljpnjeogaa
