/- Walks of layer 1's functions over numbers: what each call hands back, for every number within its kind. -/
import Derived.Test.YtakliplkabgmbaaRows
import Derived.Test.YtakliplkabgmbaaLib
import Derived.Test.YtakliplkabgmbaaPl1
set_option maxRecDepth 20000
namespace Go.Proofs.Ytakliplkabgmbaa
open Go.RowKit Go.Hd

theorem cut_any (a : Option Addr) (k c : Nat) (n : Int) (w : World) (n0 : 0 ≤ n) (hk : k ≤ c) :
    Calls Try.prog 19 #[.slice a k c, .int .i64 n] w fun e w' => e = .returned (.slice a (min k n.toNat) c) ∧ w = w' := by
  by_cases h : n < k
  · have H : Hid (min k n.toNat = n.toNat) := by show _ = _; omega
    go_enter Try.func19, Try.ntmps19
    go_wp2
    go_ret
    exact ⟨ret_eq (slice_len H.out.symm), rfl⟩
  · have H : Hid (min k n.toNat = k) := by show _ = _; omega
    have h' : (k : Int) ≤ n := by omega
    clear h
    go_enter Try.func19, Try.ntmps19
    go_wp2
    go_ret
    exact ⟨ret_eq (v := .slice a k c) (slice_len H.out.symm), rfl⟩
end Go.Proofs.Ytakliplkabgmbaa
