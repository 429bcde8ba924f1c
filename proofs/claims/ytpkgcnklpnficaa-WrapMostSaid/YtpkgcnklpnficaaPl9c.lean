/- Plain laws of layer 9 (wrap): there and back. -/
import Derived.Test.YtpkgcnklpnficaaPl9b
namespace Go.Hd
open Go

theorem size_wrapB (k : UInt8) (n : Nat) (l : List UInt8) (h : n ≤ 16379) : sizeL (wrapB k n l) = n := by
  unfold sizeL wrapB
  rw [List.drop_succ_cons, List.drop_zero, List.take_append_of_le_length (by simp), List.take_of_length_le (by simp), getL_putL]
  omega
theorem drop_wrapB (k : UInt8) (n : Nat) (l : List UInt8) : (wrapB k n l).drop 5 = l := by
  unfold wrapB
  rw [List.drop_succ_cons, List.drop_append_of_le_length (by simp), List.drop_of_length_le (by simp), List.nil_append]
theorem look_wrapB (k : UInt8) (n : Nat) (l : List UInt8) (h : n ≤ 16379) (hk : k.toNat ≤ 1) : lookF (wrapB k n l) = (k.toNat, n, 0) := by
  have e0 : (wrapB k n l).getD 0 0 = k := rfl
  rw [lookF_ok (by rw [wrapB_length]; omega) (by rw [e0]; omega) (by rw [size_wrapB _ _ _ h]; omega), e0, size_wrapB _ _ _ h]
theorem unwrap_wrapF (l : List UInt8) (st : Bool) (h : l.length ≤ 16379) : unwrapF (wrapF l st) = (l, 0) := by
  have h0 : unwrapF (wrapB 0 l.length l) = (l, 0) := by
    unfold unwrapF
    rw [look_wrapB 0 _ _ h (by decide), drop_wrapB, wrapB_length]
    simp
  cases st with
  | true => rw [wrapF_st]; exact h0
  | false =>
    by_cases hlt : (squeezeF l).length < l.length
    · rw [wrapF_yes hlt]
      unfold unwrapF
      rw [look_wrapB 1 _ _ h (by decide), drop_wrapB]
      have e : loosenF (squeezeF l) (l.length : Int) = (l, 0) := by
        rw [loosen_squeeze l _ (by omega) (by omega), if_neg (by omega)]
      have e2 : loosF (squeezeF l) l.length = (l, 0) := by
        unfold loosF
        rw [e]
        simp
        omega
      simpa using e2
    · rw [wrapF_no hlt]; exact h0
theorem look_wrapF (l : List UInt8) (st : Bool) (h : l.length ≤ 16379) : ∃ k, k ≤ 1 ∧ lookF (wrapF l st) = (k, l.length, 0) := by
  unfold wrapF
  split
  · exact ⟨1, by decide, look_wrapB 1 _ _ h (by decide)⟩
  · exact ⟨0, by decide, look_wrapB 0 _ _ h (by decide)⟩
theorem wrapF_stl (l : List UInt8) : (wrapF l true).length = 5 + l.length := by rw [wrapF_st, wrapB_length]
end Go.Hd
