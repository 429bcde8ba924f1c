/- The walks of the laws of layer 1 that make no reader. -/
import Derived.Test.YtjecejjlpccgdaaW1
import Derived.Test.YtjecejjlpccgdaaW3
import Derived.Test.YtjecejjlpccgdaaArg
namespace Go.Proofs.Ytjecejjlpccgdaa
open Go.ChangeShapes Go.WideShapes Go.ChangeAt Go.RowKit Go.Hd

section
variable {H : Type} {enc : TypeId × Value → H} {W : World} {base : Nat}
end
end Go.Proofs.Ytjecejjlpccgdaa
