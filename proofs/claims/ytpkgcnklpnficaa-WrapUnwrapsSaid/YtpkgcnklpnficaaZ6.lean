/- The walks of LzSqueezes, LzBound, LzRuns. -/
import Derived.Test.YtpkgcnklpnficaaZ5
import Derived.Test.YtpkgcnklpnficaaArg
import Derived.Lib.SlBytesConst
namespace Go.Proofs.Ytpkgcnklpnficaa
open Go.ChangeShapes Go.WideShapes Go.ChangeAt Go.RowKit Go.Hd

theorem squeeze_abc : squeezeF [97, 98, 99] = [48, 97, 98, 99] := by decide
section
variable {H : Type} {enc : TypeId × Value → H} {W : World} {base : Nat} {v0 v1 v2 v3 v4 : Value} {d0 d1 d2 d3 d4 : DataW H} {p0 p1 p2 p3 p4 : List MemPlace}
end
end Go.Proofs.Ytpkgcnklpnficaa
