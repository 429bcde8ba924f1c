/- The walks of the laws of layer 1 that make no reader. -/
import Derived.Test.YtpkgcnklpnficaaW1
import Derived.Test.YtpkgcnklpnficaaW3
import Derived.Test.YtpkgcnklpnficaaArg
namespace Go.Proofs.Ytpkgcnklpnficaa
open Go.ChangeShapes Go.WideShapes Go.ChangeAt Go.RowKit Go.Hd

section
variable {H : Type} {enc : TypeId × Value → H} {W : World} {base : Nat}
end
end Go.Proofs.Ytpkgcnklpnficaa
