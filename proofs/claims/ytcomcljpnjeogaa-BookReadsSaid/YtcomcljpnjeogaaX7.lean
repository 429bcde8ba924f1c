/- The walks of the laws of layer 3 without a loop. -/
import Derived.Test.YtcomcljpnjeogaaX5
import Derived.Test.YtcomcljpnjeogaaX6
import Derived.Test.YtcomcljpnjeogaaW2
import Derived.Test.YtcomcljpnjeogaaArg
import Derived.Lib.SlBytesConst
set_option maxRecDepth 20000
namespace Go.Proofs.Ytcomcljpnjeogaa
open Go.ChangeShapes Go.WideShapes Go.ChangeAt Go.RowKit Go.Hd

theorem xsum_any {x : Int} (seed : BitVec 64) {a : Option Addr} {n c : Nat} {l : List UInt8} {w : World} (hx : x = (seed.toNat : Int)) (hn : n = l.length) (hl : Row w a (l.map b8)) (hc : n ≤ c) (hm : l.length ≤ 140737488355328) :
    Calls Try.prog 56 #[.slice a n c, .int .u64 x] w fun e w' => e = .returned (.int .u64 ((sumF l seed).toNat : Int)) ∧ Below w.heap.size w w' := by
  subst hx hn
  go_enter Try.func56, Try.ntmps56
  go_wp2_with fail
  refine (new_any (S := fun _ => True) seed (by rfl)).mono ?_
  rintro e w1 ⟨g, rfl, hg, hH, hb⟩
  go_wp2_with fail
  refine (write_any hH rfl (hl.below hb) hc (by simp; omega)).mono ?_
  rintro e w2 ⟨rfl, hH2, hgr⟩
  go_wp2_with fail
  refine (hsum_any hH2 (by simp; omega)).mono ?_
  rintro e w3 ⟨rfl, hb3⟩
  go_wp2
  go_ret
  exact ⟨rfl, Gr.trans (Gr.ofGrown hb hgr hg) hb3⟩

/-- A hasher that no call made. -/
def NoHas (w : World) (v : Value) : Prop := v = .pointer none ∨ ∃ g, v = .pointer (some ⟨g, 0, none⟩) ∧ ∃ xs, Blk w g 131 (.bool false :: xs)
theorem nwrite_any {w : World} {v x : Value} (h : NoHas w v) : Calls Try.prog 67 #[v, x] w fun r w' => r = .returned (.tuple #[]) ∧ w = w' := by
  rcases h with rfl | ⟨g, rfl, xs, hB⟩
  · go_enter Try.func67, Try.ntmps67
    go_wp2
    refine bodyPost_ret (results_none (by rfl) _ _ _) rfl ?_
    exact ⟨rfl, rfl⟩
  · have c0 : w.cell? ⟨g, 0, none⟩ = _ := hB.cell rfl
    go_enter Try.func67, Try.ntmps67
    go_wp2
    refine bodyPost_ret (results_none (by rfl) _ _ _) rfl ?_
    exact ⟨rfl, rfl⟩
theorem nhsum_any {w : World} {v : Value} (h : NoHas w v) : Calls Try.prog 68 #[v] w fun r w' => r = .returned (.int .u64 0) ∧ w = w' := by
  rcases h with rfl | ⟨g, rfl, xs, hB⟩
  · go_enter Try.func68, Try.ntmps68
    go_wp2
    go_ret
    exact ⟨rfl, rfl⟩
  · have c0 : w.cell? ⟨g, 0, none⟩ = _ := hB.cell rfl
    go_enter Try.func68, Try.ntmps68
    go_wp2
    go_ret
    exact ⟨rfl, rfl⟩
section
variable {H : Type} {enc : TypeId × Value → H} {W : World} {base : Nat} {v0 v1 v2 v3 v4 : Value} {d0 d1 d2 d3 d4 : DataW H} {p0 p1 p2 p3 p4 : List MemPlace}
end
end Go.Proofs.Ytcomcljpnjeogaa
