/- Walks of layer 3: lanes, words, turns. -/
import Derived.Test.YtcomcljpnjeogaaW1
import Derived.Test.YtcomcljpnjeogaaW3
import Derived.Test.YtcomcljpnjeogaaLib2
import Derived.Test.YtcomcljpnjeogaaPl3
set_option maxRecDepth 20000
namespace Go.Proofs.Ytcomcljpnjeogaa
open Go.RowKit Go.Hd

theorem turn64_bv {x m : Int} (X : BitVec 64) (n : Nat) {w : World} (hx : x = (X.toNat : Int)) (hm : m = (n : Int)) (hn : n < 64) :
    Calls Try.prog 85 #[.int .u64 x, .int .i64 m] w fun e w' => e = .returned (.int .u64 ((rot64 X n).toNat : Int)) ∧ ∃ n, w' = w.drewN n := by
  subst hx hm
  have e : rotl64 (X.toNat : Int) n = ((rot64 X n).toNat : Int) := by
    unfold rotl64
    rw [b64_nat, show ((n : Int) % 64).toNat = n by omega]
  rw [← e]
  exact turn64_any _ _ w (u64_bd X).1 (u64_bd X).2
theorem rturn3_bv {x m : Int} (X : BitVec 64) (n : Nat) {w : World} (hx : x = (X.toNat : Int)) (hm : m = (n : Int)) (hn : n < 64) :
    Calls Try.prog 71 #[.int .u64 x, .int .u64 m] w fun e w' => e = .returned (.int .u64 ((rot64 X n).toNat : Int)) ∧ w = w' := by
  subst hx hm
  have hn1 : (n : Int) < 64 := by omega
  go_enter Try.func71, Try.ntmps71
  go_wp2
  go_ret
  exact ⟨ret_int (by rw [w64_shl, w64_shr, bits64_or]; rfl), rfl⟩
theorem prime_any {m : Int} (k : Nat) {w : World} (hm : m = (k : Int)) (h1 : 1 ≤ k) (h5 : k ≤ 5) :
    Calls Try.prog 69 #[.int .i64 m] w fun e w' => e = .returned (.int .u64 (((if k = 1 then P1 else if k = 2 then P2 else if k = 3 then P3 else if k = 4 then P4 else P5).toNat : Nat) : Int)) ∧ w = w' := by
  subst hm
  obtain h | h | h | h | h : k = 1 ∨ k = 2 ∨ k = 3 ∨ k = 4 ∨ k = 5 := by omega
  all_goals
    subst h
    go_enter Try.func69, Try.ntmps69
    go_wp2
    go_ret
    exact ⟨rfl, rfl⟩
theorem lane_raw (A W : BitVec 64) : B64 ((A.toNat : Int) + IntKind.u64.wrap ((W.toNat : Int) * 14029467366897019727)) = A + W * P2 := by
  rw [B64_add, B64_wrap, B64_mul, b64_nat, b64_nat]; rfl
theorem lane_bv {a x : Int} (A X : BitVec 64) {w : World} (ha : a = (A.toNat : Int)) (hx : x = (X.toNat : Int)) :
    Calls Try.prog 80 #[.int .u64 a, .int .u64 x] w fun e w' => e = .returned (.int .u64 ((laneF A X).toNat : Int)) ∧ ∃ n, w' = w.drewN n := by
  subst ha hx
  go_enter Try.func80, Try.ntmps80
  go_wp2_with fail
  refine (turn64_bv (A + X * P2) 31 ?_ (by rfl) (by decide)).mono ?_
  · exact wrap_eq (lane_raw A X)
  rintro e w1 ⟨rfl, n1, rfl⟩
  go_wp2
  go_ret
  exact ⟨ret_int (wrap_eq (by rw [B64_mul, b64_nat]; rfl)), n1, rfl⟩
theorem rlane_bv {a x : Int} (A X : BitVec 64) {w : World} (ha : a = (A.toNat : Int)) (hx : x = (X.toNat : Int)) :
    Calls Try.prog 72 #[.int .u64 a, .int .u64 x] w fun e w' => e = .returned (.int .u64 ((laneF A X).toNat : Int)) ∧ w = w' := by
  subst ha hx
  go_enter Try.func72, Try.ntmps72
  go_wp2_with fail
  refine (prime_any 2 (by rfl) (by decide) (by decide)).mono ?_
  rintro e w1 ⟨rfl, rfl⟩
  go_wp2_with fail
  refine (rturn3_bv (A + X * P2) 31 ?_ (by rfl) (by decide)).mono ?_
  · exact wrap_eq (by rw [B64_add, B64_wrap, B64_mul, b64_nat, b64_nat, b64_nat])
  rintro e w1 ⟨rfl, rfl⟩
  go_wp2_with fail
  refine (prime_any 1 (by rfl) (by decide) (by decide)).mono ?_
  rintro e w1 ⟨rfl, rfl⟩
  go_wp2
  go_ret
  exact ⟨ret_int (by rw [w64_mul]; rfl), rfl⟩
theorem word_any {a : Option Addr} {n c : Nat} {l : List UInt8} {w : World} (hn : n = l.length) (hl : Row w a (l.map b8)) (h8 : 8 ≤ l.length) (hc : n ≤ c) :
    Calls Try.prog 81 #[.slice a n c] w fun e w' => e = .returned (.int .u64 ((numF (l.take 8)).toNat : Int)) ∧ w = w' := by
  subst hn
  obtain ⟨a', c', hsl, h1, h2, hr⟩ := cut_h (P := Try.prog) (t := 27) (e := 5) (s := 1) eB.ht (by kernel_rfl) hl (k2 := .i64) (j := 8) (q := 8) (n := l.length) (c := c) rfl (by omega)
  rw [Nat.mul_one, ← List.map_take] at hr
  go_enter Try.func81, Try.ntmps81
  go_wp2_with fail
  refine (get_any a' 8 c' (l.take 8) w (by simp; omega) hr (by simp; omega) (by simp; omega)).mono ?_
  rintro e w1 ⟨rfl, rfl⟩
  go_wp2
  go_ret
  exact ⟨ret_int (numF_nat _ (by simp; omega)), rfl⟩
theorem rnum_any {a : Option Addr} {n c : Nat} {l : List UInt8} {w : World} (hn : n = l.length) (hl : Row w a (l.map b8)) (h1 : 1 ≤ l.length) (h8 : l.length ≤ 8) :
    Calls Try.prog 73 #[.slice a n c] w fun e w' => e = .returned (.int .u64 ((numF l).toNat : Int)) ∧ w = w' := by
  subst hn
  go_enter Try.func73, Try.ntmps73
  go_wp2_with fail
  refine (rget_any a _ c l w rfl hl h1 h8).mono ?_
  rintro e w1 ⟨rfl, rfl⟩
  go_wp2
  go_ret
  exact ⟨ret_int (numF_nat _ (by omega)), rfl⟩
end Go.Proofs.Ytcomcljpnjeogaa
