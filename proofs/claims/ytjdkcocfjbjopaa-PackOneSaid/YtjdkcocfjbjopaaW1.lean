/- Walks of layer 1's functions over numbers: what each call hands back, for every number within its kind. -/
import Derived.Test.YtjdkcocfjbjopaaRows
import Derived.Test.YtjdkcocfjbjopaaLib
import Derived.Test.YtjdkcocfjbjopaaPl1
set_option maxRecDepth 20000
namespace Go.Proofs.Ytjdkcocfjbjopaa
open Go.RowKit Go.Hd

theorem within_any (x lo hi : Int) (w : World) :
    Calls Try.prog 22 #[.int .i64 x, .int .i64 lo, .int .i64 hi] w fun e w' => e = .returned (.int .i64 (if x < lo then lo else if hi < x then hi else x)) ∧ w = w' := by
  by_cases c1 : x < lo
  · rw [if_pos c1]
    go_enter Try.func22, Try.ntmps22
    go_wp2
    go_ret
    exact ⟨rfl, rfl⟩
  · rw [if_neg c1]
    by_cases c2 : hi < x
    · rw [if_pos c2]
      go_enter Try.func22, Try.ntmps22
      go_wp2
      go_ret
      exact ⟨rfl, rfl⟩
    · rw [if_neg c2]
      go_enter Try.func22, Try.ntmps22
      go_wp2
      go_ret
      exact ⟨rfl, rfl⟩
theorem within_nat {x p q : Int} (lo hi : Nat) {w : World} (hp : p = (lo : Int)) (hq : q = (hi : Int)) :
    Calls Try.prog 22 #[.int .i64 x, .int .i64 p, .int .i64 q] w fun e w' => e = .returned (.int .i64 (wN x lo hi : Int)) ∧ w = w' := by
  subst hp hq
  rw [← wN_eq]
  exact within_any x lo hi w
theorem cut_any (a : Option Addr) (k c : Nat) (n : Int) (w : World) (n0 : 0 ≤ n) (hk : k ≤ c) :
    Calls Try.prog 17 #[.slice a k c, .int .i64 n] w fun e w' => e = .returned (.slice a (min k n.toNat) c) ∧ w = w' := by
  by_cases h : n < k
  · have H : Hid (min k n.toNat = n.toNat) := by show _ = _; omega
    go_enter Try.func17, Try.ntmps17
    go_wp2
    go_ret
    exact ⟨ret_eq (slice_len H.out.symm), rfl⟩
  · have H : Hid (min k n.toNat = k) := by show _ = _; omega
    have h' : (k : Int) ≤ n := by omega
    clear h
    go_enter Try.func17, Try.ntmps17
    go_wp2
    go_ret
    exact ⟨ret_eq (v := .slice a k c) (slice_len H.out.symm), rfl⟩
end Go.Proofs.Ytjdkcocfjbjopaa
