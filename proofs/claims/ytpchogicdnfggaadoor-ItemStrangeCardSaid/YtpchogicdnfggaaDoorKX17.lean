/- Joined: what one statement of this layer stands on, part 17 of 17; nothing is assumed. -/
import Derived.Test.YtpchogicdnfggaaDoorKX16
set_option maxRecDepth 20000
namespace Go.Proofs.YtpchogicdnfggaaDoor
open Go.RowKit Go.Hd Go.ChangeShapes Go.WideShapes Go.ChangeAt
theorem itemStrange_calls {H : Type} {enc : TypeId × Value → H} {W : World} {base : Nat} {v0 v1 v2 v3 : Value} {d0 d1 d2 d3 : DataW H} {p0 p1 p2 p3 : List MemPlace}
    (o0 : Value.okWide Tryd.prog W .any base 24 v0) (h0 : DataW.Trod enc Tryd.prog W 0 (fun _ => true) true 24 v0 d0 p0)
    (o1 : Value.okWide Tryd.prog W .any base 9 v1) (h1 : DataW.Trod enc Tryd.prog W 0 (fun _ => true) true 9 v1 d1 p1)
    (o2 : Value.okWide Tryd.prog W .any base 30 v2) (h2 : DataW.Trod enc Tryd.prog W 0 (fun _ => true) true 30 v2 d2 p2)
    (o3 : Value.okWide Tryd.prog W .any base 3 v3) (h3 : DataW.Trod enc Tryd.prog W 0 (fun _ => true) true 3 v3 d3 p3) :
    Calls Tryd.prog 6 #[v0, v1, v2, v3] W fun e W' => e = .returned (.bool true) ∧ Below W.heap.size W W' := by
  obtain ⟨cs, x, rfl, hx⟩ := open_item o0 h0
  obtain ⟨s, rfl, hs⟩ := open_text21 Tryd.underlying9 o1 h1
  obtain ⟨ys, y, rfl, hy⟩ := open_arg o2 h2
  obtain ⟨n, rfl, rfl, rfl, w3⟩ := open_int Tryd.underlying3 o3 h3
  exact istrange_law hx hy hs (i64_wf w3)
end Go.Proofs.YtpchogicdnfggaaDoor
