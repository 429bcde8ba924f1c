/- Walks of layer 1's functions over numbers: what each call hands back, for every number within its kind. -/
import Derived.Test.YtchpnhlblhklcaaRows
import Derived.Test.YtchpnhlblhklcaaLib
import Derived.Test.YtchpnhlblhklcaaPl1
namespace Go.Proofs.Ytchpnhlblhklcaa
open Go.RowKit Go.Hd

theorem turn64_any (x n : Int) (w : World) (h0 : 0 ≤ x) (h1 : x ≤ 18446744073709551615) :
    Calls Try.prog 17 #[.int .u64 x, .int .i64 n] w fun e w' => e = .returned (.int .u64 (rotl64 x n)) ∧ ∃ n, w' = w.drewN n := by
  have a0 : 0 ≤ bits BinOp.and IntKind.i64 n 63 := by rw [and63]; omega
  have a1 : bits BinOp.and IntKind.i64 n 63 ≤ 63 := by rw [and63]; omega
  have H := Lib.hid (rotl64_of x n h0 h1 _ (and63 n))
  go_enter Try.func17, Try.ntmps17
  go_wp2
  go_quiet (fail)
  go_wp2
  go_ret
  exact ⟨ret_int H.out, nq, rfl⟩
theorem turn32_any (x n : Int) (w : World) (h0 : 0 ≤ x) (h1 : x ≤ 4294967295) :
    Calls Try.prog 19 #[.int .u32 x, .int .i64 n] w fun e w' => e = .returned (.int .u32 (rotl32 x n)) ∧ ∃ n, w' = w.drewN n := by
  have a0 : 0 ≤ bits BinOp.and IntKind.i64 n 31 := by rw [and31]; omega
  have a1 : bits BinOp.and IntKind.i64 n 31 ≤ 31 := by rw [and31]; omega
  have H := Lib.hid (rotl32_of x n h0 h1 _ (and31 n))
  go_enter Try.func19, Try.ntmps19
  go_wp2
  go_quiet (fail)
  go_wp2
  go_ret
  exact ⟨ret_int H.out, nq, rfl⟩
theorem within_any (x lo hi : Int) (w : World) :
    Calls Try.prog 27 #[.int .i64 x, .int .i64 lo, .int .i64 hi] w fun e w' => e = .returned (.int .i64 (if x < lo then lo else if hi < x then hi else x)) ∧ w = w' := by
  by_cases c1 : x < lo
  · rw [if_pos c1]
    go_enter Try.func27, Try.ntmps27
    go_wp2
    go_ret
    exact ⟨rfl, rfl⟩
  · rw [if_neg c1]
    by_cases c2 : hi < x
    · rw [if_pos c2]
      go_enter Try.func27, Try.ntmps27
      go_wp2
      go_ret
      exact ⟨rfl, rfl⟩
    · rw [if_neg c2]
      go_enter Try.func27, Try.ntmps27
      go_wp2
      go_ret
      exact ⟨rfl, rfl⟩
theorem within_nat {x p q : Int} (lo hi : Nat) {w : World} (hp : p = (lo : Int)) (hq : q = (hi : Int)) :
    Calls Try.prog 27 #[.int .i64 x, .int .i64 p, .int .i64 q] w fun e w' => e = .returned (.int .i64 (wN x lo hi : Int)) ∧ w = w' := by
  subst hp hq
  rw [← wN_eq]
  exact within_any x lo hi w
theorem bit_any (x : BitVec 64) (i : Nat) (w : World) (i1 : i < 64) :
    Calls Try.prog 38 #[.int .u64 (x.toNat : Int), .int .i64 i] w fun e w' => e = .returned (.int .u64 ((bitF x i).toNat : Int)) ∧ w = w' := by
  have H : Hid (bits BinOp.and IntKind.u64 ((x.toNat : Int) / 2 ^ i) 1 = ((bitF x i).toNat : Int)) := by
    show _ = _
    unfold bitF
    rw [w64_shr]; exact bits64_and (x >>> i) 1#64
  have ⟨b0, b1⟩ := u64_bd x
  go_enter Try.func38, Try.ntmps38
  go_wp2
  go_ret
  exact ⟨ret_int H.out, rfl⟩
theorem place_any (i : Nat) (n : Int) (o : Nat) (w : World) (i1 : i < o) (o1 : o ≤ 64) :
    Calls Try.prog 39 #[.int .i64 i, .int .i64 n, .int .i64 o] w fun e w' => e = .returned (.int .i64 (pl i n o : Int)) ∧ w = w' := by
  have o0 : ((o : Int) == 0) = false := by simp; omega
  have b1 := tmod_bd n o (by omega)
  have H := Lib.hid (place_of i n o i1 o1)
  have b2 := tmod_bd ((i : Int) + n.tmod o) o (by omega)
  go_enter Try.func39, Try.ntmps39
  go_wp2
  · go_ret
    have h := H.out
    rw [if_pos (by assumption)] at h
    exact ⟨ret_int h, rfl⟩
  · go_ret
    have h := H.out
    rw [if_neg (by omega)] at h
    exact ⟨ret_int h, rfl⟩
theorem rturn_any {y : Int} (x : BitVec 64) (n : Int) {p : Int} (o : Nat) (w : World) (hy : y = (x.toNat : Int)) (hp : p = (o : Int)) (o0 : 0 < o) (o1 : o ≤ 64) :
    Calls Try.prog 18 #[.int .u64 y, .int .i64 n, .int .i64 p] w fun e w' => e = .returned (.int .u64 ((turnF x n o o).toNat : Int)) ∧ w = w' := by
  subst hy hp
  go_enter Try.func18, Try.ntmps18
  go_wp2
  go_loop [7, 8] (fun y i => ∃ k : Nat, k ≤ o ∧ i = .int .i64 k ∧ y = .int .u64 ((turnF x n o k).toNat : Int)) (fun _ i => o - (intOf i).toNat)
  case atStart => exact ⟨0, Nat.zero_le _, rfl, rfl⟩
  case round =>
    obtain ⟨k, hk, rfl, rfl⟩ := hrel
    by_cases hlt : k < o
    · have hp := pl_lt k n o o0
      go_wp2_with (first | (go_at_call 38; refine (bit_any _ _ _ (by omega)).mono ?_; rintro e w' ⟨rfl, rfl⟩) | (go_at_call 39; refine (place_any _ _ _ _ (by omega) (by omega)).mono ?_; rintro e w' ⟨rfl, rfl⟩))
      go_round
      case rel => exact ⟨k + 1, by omega, by go_num, by rw [w64_shl, bits64_or]; rfl⟩
      case measure => simp [intOf]; omega
    · obtain rfl : k = o := by omega
      go_wp2
      go_ret
      exact ⟨rfl, rfl⟩
theorem rflip_any {y : Int} (x : BitVec 32) (w : World) (hy : y = (x.toNat : Int)) :
    Calls Try.prog 21 #[.int .u32 y] w fun e w' => e = .returned (.int .u32 ((flipF x 32).toNat : Int)) ∧ w = w' := by
  subst hy
  have ⟨b0, b1⟩ := u32_bd x
  go_enter Try.func21, Try.ntmps21
  go_wp2
  go_loop [3, 4] (fun y i => ∃ k : Nat, k ≤ 32 ∧ i = .int .i64 k ∧ y = .int .u32 ((flipF x k).toNat : Int)) (fun _ i => 32 - (intOf i).toNat)
  case atStart => exact ⟨0, Nat.zero_le _, rfl, rfl⟩
  case round =>
    obtain ⟨k, hk, rfl, rfl⟩ := hrel
    by_cases hlt : k < 32
    · go_wp2
      go_round
      case rel =>
        exact ⟨k + 1, by omega, by go_num, by rw [flipF_of]⟩
      case measure => simp [intOf]; omega
    · obtain rfl : k = 32 := by omega
      go_wp2
      go_ret
      exact ⟨rfl, rfl⟩
theorem flip_any {y : Int} (x : BitVec 32) (w : World) (hy : y = (x.toNat : Int)) :
    Calls Try.prog 20 #[.int .u32 y] w fun e w' => e = .returned (.int .u32 ((flip32 x).toNat : Int)) ∧ w = w' := by
  subst hy
  have e1 := fun y : BitVec 32 => st_of 0x55555555#32 y 1 1431655765 2 (by decide) (by decide)
  have e2 := fun y : BitVec 32 => st_of 0x33333333#32 y 2 858993459 4 (by decide) (by decide)
  have e3 := fun y : BitVec 32 => st_of 0x0f0f0f0f#32 y 4 252645135 16 (by decide) (by decide)
  have e4 := fun y : BitVec 32 => st_of 0x00ff00ff#32 y 8 16711935 256 (by decide) (by decide)
  have e5 := fl16_of
  have ⟨b0, b1⟩ := u32_bd x
  go_enter Try.func20, Try.ntmps20
  go_wp2
  go_ret
  exact ⟨rfl, rfl⟩
theorem cut_any (a : Option Addr) (k c : Nat) (n : Int) (w : World) (n0 : 0 ≤ n) (hk : k ≤ c) :
    Calls Try.prog 22 #[.slice a k c, .int .i64 n] w fun e w' => e = .returned (.slice a (min k n.toNat) c) ∧ w = w' := by
  by_cases h : n < k
  · have H : Hid (min k n.toNat = n.toNat) := by show _ = _; omega
    go_enter Try.func22, Try.ntmps22
    go_wp2
    go_ret
    exact ⟨ret_eq (slice_len H.out.symm), rfl⟩
  · have H : Hid (min k n.toNat = k) := by show _ = _; omega
    have h' : (k : Int) ≤ n := by omega
    clear h
    go_enter Try.func22, Try.ntmps22
    go_wp2
    go_ret
    exact ⟨ret_eq (v := .slice a k c) (slice_len H.out.symm), rfl⟩
end Go.Proofs.Ytchpnhlblhklcaa
