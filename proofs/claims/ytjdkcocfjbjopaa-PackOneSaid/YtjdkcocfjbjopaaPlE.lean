/- Layer 05: what is written is read as it was (plain). -/
import Derived.Test.YtjdkcocfjbjopaaPlD
import Derived.Test.YtjdkcocfjbjopaaV21
set_option maxRecDepth 20000
namespace Go.Proofs.Ytjdkcocfjbjopaa
open Go.RowKit Go.Hd

theorem takeR_app {n : Nat} (b r : List UInt8) (h : b.length = n) : takeR n (b ++ r) = .ok b r := by
  unfold takeR
  rw [if_neg (by simp; omega), List.take_left' h, List.drop_left' h]
theorem bigR_app (x n : Nat) (r : List UInt8) : bigR n (bigB x n ++ r) = .ok (x % 256 ^ n) r := by
  unfold bigR
  rw [takeR_app _ _ (by unfold bigB; simp)]
  simp only [Rs.bind_ok]
  unfold bigB
  rw [List.reverse_reverse, getL_putL]
theorem leastR_app {x n lo : Nat} (r : List UInt8) (h : x < 256 ^ n) (hl : lo ≤ x) : leastR n lo (bigB x n ++ r) = .ok x r := by
  unfold leastR
  rw [bigR_app, Nat.mod_eq_of_lt h, Rs.bind_ok, if_neg (by omega)]
theorem byte_toNat (x : Int) : (UInt8.ofNat (x % 256).toNat).toNat = (x % 256).toNat := by
  rw [UInt8.toNat_ofNat']; omega
theorem isText_no {c : Nat} (h1 : c / 32 ≠ 5) (h2 : c ≠ 217) (h3 : c ≠ 218) : isText c = false := by
  unfold isText
  simp [h1, h2, h3]
theorem intR_cf (l : List UInt8) : intR 207 l = (leastR 8 4294967296 l).bind fun x r => if 9223372036854775807 < x then .no 4 else .ok (x : Int) r := by
  unfold intR; rw [if_neg (by decide), if_neg (by decide), if_neg (by decide), if_pos rfl]
theorem leastR_cf {x : Nat} (r : List UInt8) (h : x < 18446744073709551616) (hl : 4294967296 ≤ x) : leastR 8 4294967296 (bigB x 8 ++ r) = .ok x r := leastR_app r h hl
theorem intR_208 (l : List UInt8) : intR 208 l = signedR 1 (-32) l := by
  unfold intR; rw [if_neg (by decide), if_neg (by decide), if_neg (by decide), if_neg (by decide), if_pos rfl]
theorem intR_209 (l : List UInt8) : intR 209 l = signedR 2 (-128) l := by
  unfold intR; rw [if_neg (by decide), if_neg (by decide), if_neg (by decide), if_neg (by decide), if_neg (by decide), if_pos rfl]
theorem intR_210 (l : List UInt8) : intR 210 l = signedR 4 (-32768) l := by
  unfold intR; rw [if_neg (by decide), if_neg (by decide), if_neg (by decide), if_neg (by decide), if_neg (by decide), if_neg (by decide), if_pos rfl]
theorem intR_211 (l : List UInt8) : intR 211 l = signedR 8 (-2147483648) l := by
  unfold intR; rw [if_neg (by decide), if_neg (by decide), if_neg (by decide), if_neg (by decide), if_neg (by decide), if_neg (by decide), if_neg (by decide)]
/-- A number, read again. -/
theorem dec_num (d : Nat) (n : Int) (hn : in64 n) (r : List UInt8) : decV (d + 1) (intB n ++ r) = .ok (pNum n) r := by
  obtain ⟨n1, n2⟩ := hn
  unfold intB
  by_cases h1 : -32 ≤ n ∧ n ≤ 127
  · rw [if_pos h1]
    show leadR (decV d) (UInt8.ofNat (n % 256).toNat).toNat r = _
    rw [byte_toNat]
    have hx : (n % 256).toNat ≤ 0x7f ∨ 0xe0 ≤ (n % 256).toNat := by omega
    have ht : isText (n % 256).toNat = false := isText_no (by omega) (by omega) (by omega)
    unfold leadR
    rw [if_neg (by rw [ht]; decide), if_pos hx]
    have : int8 (n % 256).toNat = n := by unfold int8; split <;> omega
    rw [this]
  · rw [if_neg h1]
    have key : ∀ (c : UInt8) (m : List UInt8), 0xcc ≤ c.toNat → c.toNat ≤ 0xd3 → intR c.toNat (m ++ r) = .ok n r → decV (d + 1) (c :: m ++ r) = .ok (pNum n) r := by
      intro c m hc1 hc2 hi
      show leadR (decV d) c.toNat (m ++ r) = _
      unfold leadR
      rw [if_neg (by rw [isText_no (by omega) (by omega) (by omega)]; decide), if_neg (by omega), if_neg (by omega), if_neg (by omega), if_pos ⟨hc1, hc2⟩, hi]
      rfl
    have u : ∀ m : Nat, 0 ≤ n → n < m → (m : Int) ≤ 18446744073709551616 → u64Of n < m ∧ ((u64Of n : Nat) : Int) = n := fun m h0 hm hm2 => by unfold u64Of; omega
    by_cases h0 : 0 ≤ n
    · rw [if_pos h0]
      by_cases a1 : n ≤ 255
      · rw [if_pos a1]
        obtain ⟨g1, g2⟩ := u 256 h0 (by omega) (by decide)
        refine key 0xcc _ (by decide) (by decide) ?_
        show (leastR 1 128 (bigB (u64Of n) 1 ++ r)).bind _ = _
        rw [leastR_app r (by omega) (by omega), Rs.bind_ok, g2]
      rw [if_neg a1]
      by_cases a2 : n ≤ 65535
      · rw [if_pos a2]
        obtain ⟨g1, g2⟩ := u 65536 h0 (by omega) (by decide)
        refine key 0xcd _ (by decide) (by decide) ?_
        show (leastR 2 256 (bigB (u64Of n) 2 ++ r)).bind _ = _
        rw [leastR_app r (by omega) (by omega), Rs.bind_ok, g2]
      rw [if_neg a2]
      by_cases a3 : n ≤ 4294967295
      · rw [if_pos a3]
        obtain ⟨g1, g2⟩ := u 4294967296 h0 (by omega) (by decide)
        refine key 0xce _ (by decide) (by decide) ?_
        show (leastR 4 65536 (bigB (u64Of n) 4 ++ r)).bind _ = _
        rw [leastR_app r (by omega) (by omega), Rs.bind_ok, g2]
      rw [if_neg a3]
      obtain ⟨g1, g2⟩ := u 18446744073709551616 h0 (by omega) (by decide)
      refine key 0xcf _ (by decide) (by decide) ?_
      rw [show (0xcf : UInt8).toNat = 207 from rfl, intR_cf, leastR_cf r g1 (by omega), Rs.bind_ok, if_neg (by omega), g2]
    · rw [if_neg h0]
      have sg : ∀ (m : Nat) (q : Nat) (below : Int), q = 256 ^ m → (m = 1 ∨ m = 2 ∨ m = 4 ∨ m = 8) → n < below → -(q : Int) ≤ 2 * n → signedR m below (bigB (u64Of n) m ++ r) = .ok n r := by
        intro m q below hq hm hb hlo
        unfold signedR
        rw [bigR_app, Rs.bind_ok]
        have e : sext m (u64Of n % 256 ^ m) = n := by
          rw [← hq]
          unfold sext u64Of
          rcases hm with rfl | rfl | rfl | rfl
          · have hq : q = 256 := hq
            subst hq
            simp only [Nat.reduceMul, Nat.reduceSub, Nat.reducePow, Int.reducePow]
            split <;> omega
          · have hq : q = 65536 := hq
            subst hq
            simp only [Nat.reduceMul, Nat.reduceSub, Nat.reducePow, Int.reducePow]
            split <;> omega
          · have hq : q = 4294967296 := hq
            subst hq
            simp only [Nat.reduceMul, Nat.reduceSub, Nat.reducePow, Int.reducePow]
            split <;> omega
          · have hq : q = 18446744073709551616 := hq
            subst hq
            simp only [Nat.reduceMul, Nat.reduceSub, Nat.reducePow, Int.reducePow]
            split <;> omega
        rw [e, if_neg (by omega)]
      by_cases a1 : -128 ≤ n
      · rw [if_pos a1]
        refine key 0xd0 _ (by decide) (by decide) ?_
        rw [show (0xd0 : UInt8).toNat = 208 from rfl, intR_208]
        exact sg 1 256 (-32) rfl (by decide) (by omega) (by omega)
      rw [if_neg a1]
      by_cases a2 : -32768 ≤ n
      · rw [if_pos a2]
        refine key 0xd1 _ (by decide) (by decide) ?_
        rw [show (0xd1 : UInt8).toNat = 209 from rfl, intR_209]
        exact sg 2 65536 (-128) rfl (by decide) (by omega) (by omega)
      rw [if_neg a2]
      by_cases a3 : -2147483648 ≤ n
      · rw [if_pos a3]
        refine key 0xd2 _ (by decide) (by decide) ?_
        rw [show (0xd2 : UInt8).toNat = 210 from rfl, intR_210]
        exact sg 4 4294967296 (-32768) rfl (by decide) (by omega) (by omega)
      rw [if_neg a3]
      refine key 0xd3 _ (by decide) (by decide) ?_
      rw [show (0xd3 : UInt8).toNat = 211 from rfl, intR_211]
      exact sg 8 18446744073709551616 (-2147483648) rfl (by decide) (by omega) (by omega)
theorem decF_num {n : Int} (hn : in64 n) : decF (intB n) = (pNum n, 0) := by
  have h1 := intB_len n
  have h2 := dec_num 15 n hn []
  rw [List.append_nil] at h2
  unfold decF
  rw [if_neg (by omega), h2]
  rfl
end Go.Proofs.Ytjdkcocfjbjopaa
