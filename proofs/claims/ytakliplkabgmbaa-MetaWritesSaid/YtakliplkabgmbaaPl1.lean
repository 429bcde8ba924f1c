/- Plain laws of layer 1: numbers as bits and bytes; no program in sight. -/
import Derived.WalkKit
set_option maxRecDepth 20000
namespace Go.Hd
open Go Go.RowKit

/-! u64, u32 as bit vectors. -/
abbrev B64 (x : Int) : BitVec 64 := BitVec.ofInt 64 x
abbrev B32 (x : Int) : BitVec 32 := BitVec.ofInt 32 x

theorem b64_toNat (x : Int) (h0 : 0 ≤ x) (h1 : x ≤ 18446744073709551615) : ((B64 x).toNat : Int) = x := by
  simp only [BitVec.toNat_ofInt]; omega
theorem b32_toNat (x : Int) (h0 : 0 ≤ x) (h1 : x ≤ 4294967295) : ((B32 x).toNat : Int) = x := by
  simp only [BitVec.toNat_ofInt]; omega
theorem b64_nat (x : BitVec 64) : B64 (x.toNat : Int) = x := by
  apply BitVec.eq_of_toNat_eq
  simp only [BitVec.toNat_ofInt]
  have := x.isLt
  omega
theorem b32_nat (x : BitVec 32) : B32 (x.toNat : Int) = x := by
  apply BitVec.eq_of_toNat_eq
  simp only [BitVec.toNat_ofInt]
  have := x.isLt
  omega
theorem u64_bd (x : BitVec 64) : 0 ≤ (x.toNat : Int) ∧ (x.toNat : Int) ≤ 18446744073709551615 := by have := x.isLt; omega
theorem u32_bd (x : BitVec 32) : 0 ≤ (x.toNat : Int) ∧ (x.toNat : Int) ≤ 4294967295 := by have := x.isLt; omega
theorem u64_eq {x : Int} (h0 : 0 ≤ x) (h1 : x ≤ 18446744073709551615) : ∃ b : BitVec 64, x = (b.toNat : Int) := ⟨B64 x, (b64_toNat x h0 h1).symm⟩
theorem u32_eq {x : Int} (h0 : 0 ≤ x) (h1 : x ≤ 4294967295) : ∃ b : BitVec 32, x = (b.toNat : Int) := ⟨B32 x, (b32_toNat x h0 h1).symm⟩

theorem w64 (x : Int) : IntKind.u64.wrap x = ((B64 x).toNat : Int) := by
  rw [IntKind.wrap_u64]; simp only [BitVec.toNat_ofInt]; omega
theorem w32 (x : Int) : IntKind.u32.wrap x = ((B32 x).toNat : Int) := by
  rw [IntKind.wrap_u32]; simp only [BitVec.toNat_ofInt]; omega

theorem w64_add (x y : BitVec 64) : IntKind.u64.wrap ((x.toNat : Int) + y.toNat) = ((x + y).toNat : Int) := by
  rw [IntKind.wrap_u64, BitVec.toNat_add]; omega
theorem w64_mul (x y : BitVec 64) : IntKind.u64.wrap ((x.toNat : Int) * y.toNat) = ((x * y).toNat : Int) := by
  rw [IntKind.wrap_u64, BitVec.toNat_mul, ← Int.natCast_mul]; omega
theorem w64_sub (x y : BitVec 64) : IntKind.u64.wrap ((x.toNat : Int) - y.toNat) = ((x - y).toNat : Int) := by
  rw [IntKind.wrap_u64, BitVec.toNat_sub]
  have := x.isLt; have := y.isLt
  omega
theorem w64_shl (x : BitVec 64) (k : Nat) : IntKind.u64.wrap ((x.toNat : Int) * 2 ^ k) = ((x <<< k).toNat : Int) := by
  rw [IntKind.wrap_u64, BitVec.toNat_shiftLeft, Nat.shiftLeft_eq]
  have e : ((x.toNat : Int) * 2 ^ k) = ((x.toNat * 2 ^ k : Nat) : Int) := by simp
  rw [e]; omega
theorem w64_shr (x : BitVec 64) (k : Nat) : (x.toNat : Int) / 2 ^ k = ((x >>> k).toNat : Int) := by
  rw [BitVec.toNat_ushiftRight, Nat.shiftRight_eq_div_pow]; simp
theorem w32_shl (x : BitVec 32) (k : Nat) : IntKind.u32.wrap ((x.toNat : Int) * 2 ^ k) = ((x <<< k).toNat : Int) := by
  rw [IntKind.wrap_u32, BitVec.toNat_shiftLeft, Nat.shiftLeft_eq]
  have e : ((x.toNat : Int) * 2 ^ k) = ((x.toNat * 2 ^ k : Nat) : Int) := by simp
  rw [e]; omega
theorem w32_shr (x : BitVec 32) (k : Nat) : (x.toNat : Int) / 2 ^ k = ((x >>> k).toNat : Int) := by
  rw [BitVec.toNat_ushiftRight, Nat.shiftRight_eq_div_pow]; simp

theorem bits64_or (x y : BitVec 64) : bits .or .u64 (x.toNat : Int) (y.toNat : Int) = ((x ||| y).toNat : Int) := by
  show IntKind.u64.wrap (((B64 (x.toNat : Int) ||| B64 (y.toNat : Int) : BitVec 64).toNat : Nat) : Int) = _
  rw [b64_nat, b64_nat]
  exact IntWalk.u64_in _ (u64_bd _)
theorem bits64_and (x y : BitVec 64) : bits .and .u64 (x.toNat : Int) (y.toNat : Int) = ((x &&& y).toNat : Int) := by
  show IntKind.u64.wrap (((B64 (x.toNat : Int) &&& B64 (y.toNat : Int) : BitVec 64).toNat : Nat) : Int) = _
  rw [b64_nat, b64_nat]
  exact IntWalk.u64_in _ (u64_bd _)
theorem bits64_xor (x y : BitVec 64) : bits .xor .u64 (x.toNat : Int) (y.toNat : Int) = ((x ^^^ y).toNat : Int) := by
  show IntKind.u64.wrap (((B64 (x.toNat : Int) ^^^ B64 (y.toNat : Int) : BitVec 64).toNat : Nat) : Int) = _
  rw [b64_nat, b64_nat]
  exact IntWalk.u64_in _ (u64_bd _)
theorem bits32_or (x y : BitVec 32) : bits .or .u32 (x.toNat : Int) (y.toNat : Int) = ((x ||| y).toNat : Int) := by
  show IntKind.u32.wrap (((B32 (x.toNat : Int) ||| B32 (y.toNat : Int) : BitVec 32).toNat : Nat) : Int) = _
  rw [b32_nat, b32_nat]
  exact IntWalk.u32_in _ (u32_bd _)
theorem bits32_and (x y : BitVec 32) : bits .and .u32 (x.toNat : Int) (y.toNat : Int) = ((x &&& y).toNat : Int) := by
  show IntKind.u32.wrap (((B32 (x.toNat : Int) &&& B32 (y.toNat : Int) : BitVec 32).toNat : Nat) : Int) = _
  rw [b32_nat, b32_nat]
  exact IntWalk.u32_in _ (u32_bd _)

theorem and63 (n : Int) : bits .and .i64 n 63 = n % 64 := by
  show IntKind.i64.wrap (((BitVec.ofInt 64 n &&& BitVec.ofInt 64 63 : BitVec 64).toNat : Nat) : Int) = _
  have e : (BitVec.ofInt 64 n &&& BitVec.ofInt 64 63).toNat = (n % 64).toNat := by
    rw [BitVec.toNat_and]
    have h63 : (BitVec.ofInt 64 63).toNat = 2 ^ 6 - 1 := by decide
    rw [h63, Nat.and_two_pow_sub_one_eq_mod]
    simp only [BitVec.toNat_ofInt]
    omega
  rw [e, IntWalk.i64_in _ (by omega)]
  omega
theorem and31 (n : Int) : bits .and .i64 n 31 = n % 32 := by
  show IntKind.i64.wrap (((BitVec.ofInt 64 n &&& BitVec.ofInt 64 31 : BitVec 64).toNat : Nat) : Int) = _
  have e : (BitVec.ofInt 64 n &&& BitVec.ofInt 64 31).toNat = (n % 32).toNat := by
    rw [BitVec.toNat_and]
    have h63 : (BitVec.ofInt 64 31).toNat = 2 ^ 5 - 1 := by decide
    rw [h63, Nat.and_two_pow_sub_one_eq_mod]
    simp only [BitVec.toNat_ofInt]
    omega
  rw [e, IntWalk.i64_in _ (by omega)]
  omega

/-- Turned to the left. -/
def rot64 (x : BitVec 64) (k : Nat) : BitVec 64 := x <<< k ||| x >>> (64 - k)
def rot32 (x : BitVec 32) (k : Nat) : BitVec 32 := x <<< k ||| x >>> (32 - k)
def rotl64 (x n : Int) : Int := ((rot64 (B64 x) (n % 64).toNat).toNat : Int)
def rotl32 (x n : Int) : Int := ((rot32 (B32 x) (n % 32).toNat).toNat : Int)
theorem rotl64_of (x n : Int) (h0 : 0 ≤ x) (h1 : x ≤ 18446744073709551615) (k : Int) (hk : k = n % 64) :
    bits .or .u64 (IntKind.u64.wrap (x * 2 ^ k.toNat)) (x / 2 ^ (64 - k).toNat) = rotl64 x n := by
  subst hk
  obtain ⟨b, rfl⟩ := u64_eq h0 h1
  unfold rotl64 rot64
  rw [w64_shl, w64_shr, bits64_or, b64_nat, show (64 - n % 64).toNat = 64 - (n % 64).toNat by omega]
theorem rotl32_of (x n : Int) (h0 : 0 ≤ x) (h1 : x ≤ 4294967295) (k : Int) (hk : k = n % 32) :
    bits .or .u32 (IntKind.u32.wrap (x * 2 ^ k.toNat)) (x / 2 ^ (32 - k).toNat) = rotl32 x n := by
  subst hk
  obtain ⟨b, rfl⟩ := u32_eq h0 h1
  unfold rotl32 rot32
  rw [w32_shl, w32_shr, bits32_or, b32_nat, show (32 - n % 32).toNat = 32 - (n % 32).toNat by omega]
theorem rotl64_bd (x n : Int) : 0 ≤ rotl64 x n ∧ rotl64 x n ≤ 18446744073709551615 := u64_bd _
theorem rotl32_bd (x n : Int) : 0 ≤ rotl32 x n ∧ rotl32 x n ≤ 4294967295 := u32_bd _


/-! The document's turn, bit by bit. -/
def pl (i : Nat) (n : Int) (o : Nat) : Nat := (((i : Int) + n) % (o : Int)).toNat
theorem pl_lt (i : Nat) (n : Int) (o : Nat) (ho : 0 < o) : pl i n o < o := by
  unfold pl
  have := Int.emod_nonneg ((i : Int) + n) (show (o : Int) ≠ 0 by omega)
  have := Int.emod_lt_of_pos ((i : Int) + n) (show (0 : Int) < o by omega)
  omega
theorem tmod_bd (a b : Int) (hb : 0 < b) : -b < a.tmod b ∧ a.tmod b < b := by
  have h1 := Int.emod_nonneg a (show b ≠ 0 by omega)
  have h2 := Int.emod_lt_of_pos a hb
  rw [Int.tmod_eq_emod]
  split <;> omega
theorem tmod_emod (a b : Int) (hb : 0 < b) : a.tmod b % b = a % b := by
  rw [Int.tmod_eq_emod]; split
  · simp
  · rw [show ((b.natAbs : Nat) : Int) = b by omega, Int.sub_emod_right, Int.emod_emod]
theorem place_of (i : Nat) (n : Int) (o : Nat) (hi : i < o) (ho : o ≤ 64) :
    (if ((i : Int) + n.tmod o).tmod o < 0 then ((i : Int) + n.tmod o).tmod o + o else ((i : Int) + n.tmod o).tmod o) = (pl i n o : Int) := by
  have h0 : (0 : Int) < o := by omega
  have e1 := tmod_emod n o h0
  have e2 := tmod_emod ((i : Int) + n.tmod o) o h0
  have b1 := tmod_bd ((i : Int) + n.tmod o) o h0
  have e3 : ((i : Int) + n.tmod o) % o = ((i : Int) + n) % o := by rw [Int.add_emod, e1, ← Int.add_emod]
  unfold pl
  generalize ((i : Int) + n.tmod o).tmod o = q at *
  rw [e3] at e2
  generalize ((i : Int) + n) % (o : Int) = r at *
  have e4 : q % o = r := e2
  have r0 : 0 ≤ r := by rw [← e4]; exact Int.emod_nonneg _ (by omega)
  split
  · have : q % o = q + o := by
      have h1 : (q + o) % o = q % o := Int.add_emod_right ..
      rw [← h1]; exact Int.emod_eq_of_lt (by omega) (by omega)
    omega
  · have : q % o = q := Int.emod_eq_of_lt (by omega) (by omega)
    omega

def bitF (x : BitVec 64) (k : Nat) : BitVec 64 := x >>> k &&& 1#64
def turnF (x : BitVec 64) (n : Int) (o : Nat) : Nat → BitVec 64
  | 0 => 0#64
  | k + 1 => turnF x n o k ||| (bitF x k <<< pl k n o)

theorem turnF_bit (x : BitVec 64) (n : Int) (o : Nat) (ho : o ≤ 64) (j : Nat) (hj : j < 64) :
    ∀ k, k ≤ o → (turnF x n o k).getLsbD j = decide (∃ i, i < k ∧ pl i n o = j ∧ x.getLsbD i = true)
  | 0, _ => by simp [turnF]
  | k + 1, hk => by
    have ih := turnF_bit x n o ho j hj k (by omega)
    unfold turnF bitF
    rw [BitVec.getLsbD_or, ih, BitVec.getLsbD_shiftLeft]
    have hbit : ∀ m, (x >>> k &&& 1#64).getLsbD m = (decide (m = 0) && x.getLsbD k) := by
      intro m
      rw [BitVec.getLsbD_and, BitVec.getLsbD_ushiftRight]
      by_cases hm : m = 0
      · subst hm; simp
      · have : (1#64).getLsbD m = false := by simp [BitVec.getLsbD_one, hm]
        simp [this, hm]
    rw [hbit]
    rw [Bool.eq_iff_iff]
    simp only [Bool.or_eq_true, decide_eq_true_eq, Bool.and_eq_true, Bool.not_eq_true', decide_eq_false_iff_not]
    constructor
    · rintro (⟨i, h1, h2, h3⟩ | ⟨⟨_, h1⟩, h2, h3⟩)
      · exact ⟨i, by omega, h2, h3⟩
      · exact ⟨k, by omega, by omega, h3⟩
    · rintro ⟨i, h1, h2, h3⟩
      by_cases hik : i = k
      · subst hik; right; exact ⟨⟨hj, by omega⟩, by omega, h3⟩
      · left; exact ⟨i, by omega, h2, h3⟩

theorem turn64_eq (x : BitVec 64) (n : Int) : turnF x n 64 64 = rot64 x (n % 64).toNat := by
  apply BitVec.eq_of_getLsbD_eq
  intro j hj
  rw [turnF_bit x n 64 (by omega) j hj 64 (by omega)]
  unfold rot64
  rw [BitVec.getLsbD_or, BitVec.getLsbD_shiftLeft, BitVec.getLsbD_ushiftRight, Bool.eq_iff_iff]
  simp only [Bool.or_eq_true, decide_eq_true_eq, Bool.and_eq_true, Bool.not_eq_true', decide_eq_false_iff_not]
  constructor
  · rintro ⟨i, h1, h2, h3⟩
    unfold pl at h2
    by_cases hi : i + (n % 64).toNat < 64
    · left
      refine ⟨⟨by omega, by omega⟩, ?_⟩
      rw [show j - (n % 64).toNat = i by omega]; exact h3
    · right
      rw [show 64 - (n % 64).toNat + j = i by omega]; exact h3
  · rintro (⟨⟨_, h1⟩, h2⟩ | h2)
    · exact ⟨j - (n % 64).toNat, by omega, by unfold pl; omega, h2⟩
    · have hlt : 64 - (n % 64).toNat + j < 64 := by
        rcases Nat.lt_or_ge (64 - (n % 64).toNat + j) 64 with h | h
        · exact h
        · rw [BitVec.getLsbD_of_ge _ _ h] at h2; cases h2
      exact ⟨64 - (n % 64).toNat + j, hlt, by unfold pl; omega, h2⟩
theorem turn32_eq (x : BitVec 32) (n : Int) : turnF (x.setWidth 64) n 32 32 = (rot32 x (n % 32).toNat).setWidth 64 := by
  apply BitVec.eq_of_getLsbD_eq
  intro j hj
  rw [turnF_bit _ n 32 (by omega) j hj 32 (by omega)]
  unfold rot32
  rw [BitVec.getLsbD_setWidth, BitVec.getLsbD_or, BitVec.getLsbD_shiftLeft, BitVec.getLsbD_ushiftRight, Bool.eq_iff_iff]
  simp only [Bool.or_eq_true, decide_eq_true_eq, Bool.and_eq_true, Bool.not_eq_true', decide_eq_false_iff_not, BitVec.getLsbD_setWidth]
  constructor
  · rintro ⟨i, h1, h2, h3, h4⟩
    unfold pl at h2
    refine ⟨hj, ?_⟩
    by_cases hi : i + (n % 32).toNat < 32
    · left
      refine ⟨⟨by omega, by omega⟩, ?_⟩
      rw [show j - (n % 32).toNat = i by omega]; exact h4
    · right
      rw [show 32 - (n % 32).toNat + j = i by omega]; exact h4
  · rintro ⟨_, ⟨⟨h0, h1⟩, h2⟩ | h2⟩
    · exact ⟨j - (n % 32).toNat, by omega, by unfold pl; omega, by omega, h2⟩
    · have hlt : 32 - (n % 32).toNat + j < 32 := by
        rcases Nat.lt_or_ge (32 - (n % 32).toNat + j) 32 with h | h
        · exact h
        · rw [BitVec.getLsbD_of_ge _ _ h] at h2; cases h2
      exact ⟨32 - (n % 32).toNat + j, hlt, by unfold pl; omega, by omega, h2⟩

/-! Flipped. -/
def st (m : BitVec 32) (k : Nat) (x : BitVec 32) : BitVec 32 := x >>> k &&& m ||| (x &&& m) <<< k
def fl16 (d : BitVec 32) : BitVec 32 := d >>> 16 ||| d <<< 16
def flip32 (x : BitVec 32) : BitVec 32 := fl16 (st 0x00ff00ff#32 8 (st 0x0f0f0f0f#32 4 (st 0x33333333#32 2 (st 0x55555555#32 1 x))))
def flipF (x : BitVec 32) : Nat → BitVec 32
  | 0 => 0#32
  | k + 1 => flipF x k <<< 1 ||| (x >>> k &&& 1#32)
theorem stage (x m : BitVec 32) (k : Nat)
    (h1 : ∀ i, i < 32 → m.getLsbD i = true → ¬ (k ≤ i ∧ m.getLsbD (i - k) = true))
    (h2 : ∀ i, i < 32 → m.getLsbD i = false → k ≤ i ∧ m.getLsbD (i - k) = true) (i : Nat) (hi : i < 32) :
    (x >>> k &&& m ||| (x &&& m) <<< k).getLsbD i = x.getLsbD (if m.getLsbD i then k + i else i - k) := by
  rw [BitVec.getLsbD_or, BitVec.getLsbD_and, BitVec.getLsbD_ushiftRight, BitVec.getLsbD_shiftLeft, BitVec.getLsbD_and]
  cases hm : m.getLsbD i
  · obtain ⟨h3, h4⟩ := h2 i hi hm
    simp [h4, hi, show ¬ i < k by omega]
  · have h3 := h1 i hi hm
    by_cases hk : k ≤ i
    · have h4 : m.getLsbD (i - k) = false := by
        cases h5 : m.getLsbD (i - k)
        · rfl
        · exact absurd ⟨hk, h5⟩ h3
      simp [h4]
    · simp [show i < k by omega]
def sg (m : BitVec 32) (k i : Nat) : Nat := if m.getLsbD i then k + i else i - k
theorem flip32_bit (x : BitVec 32) (i : Nat) (hi : i < 32) : (flip32 x).getLsbD i = x.getLsbD (31 - i) := by
  have s8 := fun y => stage y 0x00ff00ff#32 8 (by decide) (by decide)
  have s4 := fun y => stage y 0x0f0f0f0f#32 4 (by decide) (by decide)
  have s2 := fun y => stage y 0x33333333#32 2 (by decide) (by decide)
  have s1 := fun y => stage y 0x55555555#32 1 (by decide) (by decide)
  have key : ∀ j : Nat, j < 32 → sg 0x00ff00ff#32 8 j < 32 ∧ sg 0x0f0f0f0f#32 4 (sg 0x00ff00ff#32 8 j) < 32 ∧ sg 0x33333333#32 2 (sg 0x0f0f0f0f#32 4 (sg 0x00ff00ff#32 8 j)) < 32 ∧
      sg 0x55555555#32 1 (sg 0x33333333#32 2 (sg 0x0f0f0f0f#32 4 (sg 0x00ff00ff#32 8 j))) = (if j < 16 then 15 - j else 47 - j) := by decide
  have go : ∀ j, j < 32 → (st 0x00ff00ff#32 8 (st 0x0f0f0f0f#32 4 (st 0x33333333#32 2 (st 0x55555555#32 1 x)))).getLsbD j = x.getLsbD (if j < 16 then 15 - j else 47 - j) := by
    intro j hj
    obtain ⟨k1, k2, k3, k4⟩ := key j hj
    rw [← k4]
    unfold sg st at *
    rw [s8 _ j hj, s4 _ _ k1, s2 _ _ k2, s1 _ _ k3]
  unfold flip32 fl16
  rw [BitVec.getLsbD_or, BitVec.getLsbD_ushiftRight, BitVec.getLsbD_shiftLeft]
  by_cases h : i < 16
  · rw [go (16 + i) (by omega)]
    simp [h, show ¬ (16 + i < 16) by omega, show 47 - (16 + i) = 31 - i by omega]
  · rw [go (i - 16) (by omega), BitVec.getLsbD_of_ge _ (16 + i) (by omega)]
    simp [h, hi, show i - 16 < 16 by omega, show 15 - (i - 16) = 31 - i by omega]
theorem flipF_bit (x : BitVec 32) (j : Nat) : ∀ k, k ≤ 32 → (flipF x k).getLsbD j = (decide (j < k) && x.getLsbD (k - 1 - j))
  | 0, _ => by simp [flipF]
  | k + 1, hk => by
    have ih := fun j => flipF_bit x j k (by omega)
    unfold flipF
    have hbit : (x >>> k &&& 1#32).getLsbD j = (decide (j = 0) && x.getLsbD k) := by
      rw [BitVec.getLsbD_and, BitVec.getLsbD_ushiftRight]
      by_cases hm : j = 0
      · subst hm; simp
      · have : (1#32).getLsbD j = false := by simp [BitVec.getLsbD_one, hm]
        simp [this, hm]
    rw [BitVec.getLsbD_or, BitVec.getLsbD_shiftLeft, hbit]
    rw [flipF_bit x (j - 1) k (by omega)]
    by_cases hj : j = 0
    · subst hj; simp
    · by_cases hk2 : j < k + 1
      · simp [hj, hk2, show j < 32 by omega, show j - 1 < k by omega, show k - 1 - (j - 1) = k - j by omega]
      · simp [hj, hk2, show ¬ j - 1 < k by omega]
theorem flip_eq (x : BitVec 32) : flipF x 32 = flip32 x := by
  apply BitVec.eq_of_getLsbD_eq
  intro j hj
  rw [flipF_bit x j 32 (by omega), flip32_bit x j hj]
  simp [hj]
theorem flip_flip (x : BitVec 32) : flip32 (flip32 x) = x := by
  apply BitVec.eq_of_getLsbD_eq
  intro j hj
  rw [flip32_bit _ j hj, flip32_bit _ _ (by omega), show 31 - (31 - j) = j by omega]

/-! Numbers as bytes. -/
/-- The lowest n bytes of x, the lowest first. -/
def putL (x : Nat) : Nat → List UInt8
  | 0 => []
  | n + 1 => putL x n ++ [UInt8.ofNat (x / 256 ^ n)]
/-- The number that bytes are, the lowest first. -/
def getL : List UInt8 → Nat
  | [] => 0
  | c :: l => c.toNat + 256 * getL l
@[simp] theorem putL_length (x n : Nat) : (putL x n).length = n := by
  induction n with
  | zero => rfl
  | succ n ih => simp [putL, ih]
theorem putL_get (x n i : Nat) (h : i < n) : (putL x n)[i]? = some (UInt8.ofNat (x / 256 ^ i)) := by
  induction n with
  | zero => omega
  | succ n ih =>
    unfold putL
    by_cases hi : i < n
    · rw [List.getElem?_append_left (by simpa using hi)]; exact ih hi
    · obtain rfl : i = n := by omega
      rw [List.getElem?_append_right (by simp)]; simp
theorem putL_cons (x n : Nat) : putL x (n + 1) = UInt8.ofNat x :: putL (x / 256) n := by
  apply List.ext_getElem?
  intro i
  by_cases hi : i < n + 1
  · rw [putL_get x (n + 1) i hi]
    match i with
    | 0 => simp
    | i + 1 =>
      rw [List.getElem?_cons_succ, putL_get _ _ _ (by omega), Nat.pow_succ, Nat.div_div_eq_div_mul, Nat.mul_comm]
  · rw [List.getElem?_eq_none (by simp; omega), List.getElem?_eq_none (by simp; omega)]
theorem getL_append (l m : List UInt8) : getL (l ++ m) = getL l + 256 ^ l.length * getL m := by
  induction l with
  | nil => simp [getL]
  | cons c l ih =>
    simp only [List.cons_append, getL, ih, List.length_cons, Nat.pow_succ]
    rw [Nat.mul_add, ← Nat.add_assoc, ← Nat.mul_assoc, Nat.mul_comm (256 ^ l.length) 256]
theorem getL_lt (l : List UInt8) : getL l < 256 ^ l.length := by
  induction l with
  | nil => simp [getL]
  | cons c l ih =>
    simp only [getL, List.length_cons, Nat.pow_succ]
    have := c.toNat_lt
    omega
theorem getL_putL (x n : Nat) : getL (putL x n) = x % 256 ^ n := by
  induction n generalizing x with
  | zero => simp [putL, getL, Nat.mod_one]
  | succ n ih =>
    rw [putL_cons, getL, ih, Nat.pow_succ, Nat.mul_comm (256 ^ n) 256, Nat.mod_mul]
    simp
theorem putL_getL (l : List UInt8) : putL (getL l) l.length = l := by
  induction l with
  | nil => rfl
  | cons c l ih =>
    simp only [List.length_cons, putL_cons, getL]
    have h1 := c.toNat_lt
    congr 1
    · apply UInt8.toNat_inj.1
      simp
    · rw [show (c.toNat + 256 * getL l) / 256 = getL l by omega, ih]
theorem getL_small (l : List UInt8) (h : l.length ≤ 8) : getL l < 18446744073709551616 := by
  have h1 := getL_lt l
  have h2 : 256 ^ l.length ≤ 256 ^ 8 := Nat.pow_le_pow_right (by decide) h
  have h3 : 256 ^ 8 = 18446744073709551616 := by decide
  omega

theorem w32_lit (x : BitVec 32) (k : Nat) (m : Int) (hm : m = 2 ^ k) : (x.toNat : Int) * m % 4294967296 = ((x <<< k).toNat : Int) := by
  subst hm
  rw [← w32_shl, IntKind.wrap_u32]
theorem r32_lit (x : BitVec 32) (k : Nat) (m : Int) (hm : m = 2 ^ k) : (x.toNat : Int) / m = ((x >>> k).toNat : Int) := by
  subst hm
  rw [← w32_shr]
theorem and32_lit (x : BitVec 32) (m : BitVec 32) (c : Int) (hc : c = (m.toNat : Int)) : bits .and .u32 (x.toNat : Int) c = ((x &&& m).toNat : Int) := by subst hc; exact bits32_and x m
theorem st_of (m x : BitVec 32) (k : Nat) (c p : Int) (hc : c = (m.toNat : Int)) (hp : p = 2 ^ k) :
    bits .or .u32 (bits .and .u32 ((x.toNat : Int) / p) c) (bits .and .u32 (x.toNat : Int) c * p % 4294967296) = ((st m k x).toNat : Int) := by
  rw [r32_lit x k p hp, and32_lit _ m c hc, and32_lit _ m c hc, w32_lit _ k p hp, bits32_or]; rfl
theorem fl16_of (x : BitVec 32) : bits .or .u32 ((x.toNat : Int) / 65536) ((x.toNat : Int) * 65536 % 4294967296) = ((fl16 x).toNat : Int) := by
  rw [r32_lit x 16 _ (by decide), w32_lit x 16 _ (by decide), bits32_or]; rfl
theorem flipF_of (x : BitVec 32) (k : Nat) : bits .or .u32 (((flipF x k).toNat : Int) * 2 % 4294967296) (bits .and .u32 ((x.toNat : Int) / 2 ^ k) 1) = ((flipF x (k + 1)).toNat : Int) := by
  rw [w32_lit _ 1 _ (by decide), w32_shr, and32_lit _ 1#32 _ (by decide), bits32_or]; rfl
theorem set_next {α : Type} (A : List α) (z v : α) (k m : Nat) (hA : A.length = k) : (A ++ List.replicate (m + 1) z).set k v = (A ++ [v]) ++ List.replicate m z := by
  subst hA
  rw [List.set_append_right _ _ (Nat.le_refl _), Nat.sub_self, List.replicate_succ, List.set_cons_zero, List.append_assoc]
  rfl
theorem byte_shr (x k : Nat) : ((x : Int) / 2 ^ (8 * k)) % 256 = ((UInt8.ofNat (x / 256 ^ k)).toNat : Int) := by
  have e : (2 : Int) ^ (8 * k) = ((256 ^ k : Nat) : Int) := by rw [Int.pow_mul]; simp
  rw [e]; simp
/-- m is l, turned round as far as places i and j. -/
def RevAt (l m : List UInt8) (n i j : Nat) : Prop := m.length = l.length ∧ ∀ p, m[p]? = if p < n ∧ (p < i ∨ j < p) then l[n - 1 - p]? else l[p]?
theorem RevAt.start (l : List UInt8) (n : Nat) : RevAt l l n 0 (n - 1) := ⟨rfl, fun p => by rw [if_neg (by omega)]⟩
theorem RevAt.step {l m : List UInt8} {n i j : Nat} (h : RevAt l m n i j) (hn : n ≤ l.length) (hij : i + j + 1 = n) (hlt : i < j) :
    RevAt l ((m.set i (m[j]'(by have := h.1; omega))).set j (m[i]'(by have := h.1; omega))) n (i + 1) (j - 1) := by
  obtain ⟨h1, h2⟩ := h
  refine ⟨by simp [h1], fun p => ?_⟩
  have ei : m[i]? = l[i]? := by rw [h2, if_neg (by omega)]
  have ej : m[j]? = l[j]? := by rw [h2, if_neg (by omega)]
  by_cases hpj : p = j
  · subst hpj
    rw [List.getElem?_set_self (by simp; omega), if_pos (by omega), show n - 1 - p = i by omega, ← ei, List.getElem?_eq_getElem (by omega)]
  · rw [List.getElem?_set_ne (by omega)]
    by_cases hpi : p = i
    · subst hpi
      rw [List.getElem?_set_self (by omega), if_pos (by omega), show n - 1 - p = j by omega, ← ej, List.getElem?_eq_getElem (by omega)]
    · rw [List.getElem?_set_ne (by omega), h2]
      by_cases hc : p < n ∧ (p < i ∨ j < p)
      · rw [if_pos hc, if_pos (by omega)]
      · rw [if_neg hc, if_neg (by omega)]
theorem RevAt.done {l m : List UInt8} {n i j : Nat} (h : RevAt l m n i j) (hn : n ≤ l.length) (hij : i + j + 1 = n) (hlt : ¬ i < j) : m = (l.take n).reverse ++ l.drop n := by
  obtain ⟨h1, h2⟩ := h
  apply List.ext_getElem?
  intro p
  rw [h2]
  by_cases hp : p < n
  · rw [List.getElem?_append_left (by simp; omega), List.getElem?_reverse (by simp; omega), List.length_take, Nat.min_eq_left hn, List.getElem?_take_of_lt (by omega)]
    by_cases hc : p < i ∨ j < p
    · rw [if_pos ⟨hp, hc⟩]
    · rw [if_neg (by omega), show n - 1 - p = p by omega]
  · rw [if_neg (by omega), List.getElem?_append_right (by simp; omega), List.length_reverse, List.length_take, Nat.min_eq_left hn, List.getElem?_drop, show n + (p - n) = p by omega]
theorem RevAt.whole {l m : List UInt8} {i j : Nat} (h : RevAt l m l.length i j) (hij : i + j + 1 = l.length) (hlt : ¬ i < j) : m = l.reverse := by
  have := h.done (Nat.le_refl _) hij hlt
  simpa using this
theorem or_disj (x c k : Nat) (hx : x < 2 ^ k) : x ||| c * 2 ^ k = x + c * 2 ^ k := by
  rw [Nat.or_comm, Nat.mul_comm, ← Nat.two_pow_add_eq_or_of_lt hx, Nat.add_comm]
theorem getL_take (l : List UInt8) (k : Nat) (h : k < l.length) : getL (l.take (k + 1)) = getL (l.take k) + l[k].toNat * 2 ^ (8 * k) := by
  rw [List.take_succ_eq_append_getElem h, getL_append]
  simp only [getL, List.length_take, Nat.min_eq_left (Nat.le_of_lt h), Nat.mul_zero, Nat.add_zero]
  rw [Nat.mul_comm, Nat.pow_mul]
theorem getL_take_lt (l : List UInt8) (k : Nat) : getL (l.take k) < 2 ^ (8 * k) := by
  have h := getL_lt (l.take k)
  have h2 : 256 ^ (l.take k).length ≤ 256 ^ k := Nat.pow_le_pow_right (by decide) (List.length_take_le _ _)
  rw [Nat.pow_mul]
  exact Nat.lt_of_lt_of_le h h2
theorem get_step (l : List UInt8) (k : Nat) (h : k < l.length) (h8 : l.length ≤ 8) :
    bits .or .u64 (getL (l.take k) : Int) (IntKind.u64.wrap ((l[k].toNat : Int) * 2 ^ (8 * k))) = (getL (l.take (k + 1)) : Int) := by
  have e := getL_take l k h
  have hs := getL_small (l.take (k + 1)) (by simp; omega)
  have e2 : (l[k].toNat : Int) * 2 ^ (8 * k) = ((l[k].toNat * 2 ^ (8 * k) : Nat) : Int) := by simp
  rw [e2, IntWalk.u64_in _ (by omega), u64_or_nat _ _ (by omega) (by omega), or_disj _ _ _ (getL_take_lt l k), e]
theorem u8_le (c : UInt8) : (c.toNat : Int) ≤ 255 := by have := c.toNat_lt; omega
theorem u8_lt (c : UInt8) : (c.toNat : Int) < 256 := by have := c.toNat_lt; omega
theorem getL_drop (l : List UInt8) (k : Nat) (h : k < l.length) : getL (l.drop k) = getL (l.drop (k + 1)) * 256 + l[k].toNat := by
  rw [List.drop_eq_getElem_cons h, getL]; omega
theorem getL_rev_take (l : List UInt8) (k : Nat) (h : k < l.length) : getL (l.take (k + 1)).reverse = getL (l.take k).reverse * 256 + l[k].toNat := by
  rw [List.take_succ_eq_append_getElem h, List.reverse_append]
  simp only [List.reverse_cons, List.reverse_nil, List.nil_append, List.singleton_append, getL]
  omega
theorem getBig_step (l : List UInt8) (k : Nat) (h : k < l.length) (h8 : l.length ≤ 8) :
    bits .or .u64 (IntKind.u64.wrap ((getL (l.take k).reverse : Int) * 256)) (l[k].toNat : Int) = (getL (l.take (k + 1)).reverse : Int) := by
  have e := getL_rev_take l k h
  have hs := getL_small (l.take (k + 1)).reverse (by simp; omega)
  have hc := l[k].toNat_lt
  have e2 : (getL (l.take k).reverse : Int) * 256 = ((getL (l.take k).reverse * 2 ^ 8 : Nat) : Int) := by simp
  rw [e2, IntWalk.u64_in _ (by omega), u64_or_nat _ _ (by omega) (by omega), Nat.or_comm, or_disj _ _ 8 (by omega), e]
  omega
/-! Turns, there and back; two as one; flipped. -/
theorem rot64_bit (x : BitVec 64) (k j : Nat) (hk : k ≤ 64) (hj : j < 64) : (rot64 x k).getLsbD j = x.getLsbD ((j + (64 - k)) % 64) := by
  unfold rot64
  rw [BitVec.getLsbD_or, BitVec.getLsbD_shiftLeft, BitVec.getLsbD_ushiftRight]
  by_cases h : j < k
  · rw [show 64 - k + j = (j + (64 - k)) % 64 by omega]
    simp [h]
  · rw [BitVec.getLsbD_of_ge x (64 - k + j) (by omega), show (j + (64 - k)) % 64 = j - k by omega]
    simp [h, hj]
theorem rot32_bit (x : BitVec 32) (k j : Nat) (hk : k ≤ 32) (hj : j < 32) : (rot32 x k).getLsbD j = x.getLsbD ((j + (32 - k)) % 32) := by
  unfold rot32
  rw [BitVec.getLsbD_or, BitVec.getLsbD_shiftLeft, BitVec.getLsbD_ushiftRight]
  by_cases h : j < k
  · rw [show 32 - k + j = (j + (32 - k)) % 32 by omega]
    simp [h]
  · rw [BitVec.getLsbD_of_ge x (32 - k + j) (by omega), show (j + (32 - k)) % 32 = j - k by omega]
    simp [h, hj]
theorem rot64_two (x : BitVec 64) (a b : Nat) (ha : a < 64) (hb : b < 64) : rot64 (rot64 x a) b = rot64 x ((a + b) % 64) := by
  apply BitVec.eq_of_getLsbD_eq
  intro j hj
  rw [rot64_bit _ _ _ (by omega) hj, rot64_bit _ _ _ (by omega) (by omega), rot64_bit _ _ _ (by omega) hj]
  congr 1
  omega
theorem rot32_two (x : BitVec 32) (a b : Nat) (ha : a < 32) (hb : b < 32) : rot32 (rot32 x a) b = rot32 x ((a + b) % 32) := by
  apply BitVec.eq_of_getLsbD_eq
  intro j hj
  rw [rot32_bit _ _ _ (by omega) hj, rot32_bit _ _ _ (by omega) (by omega), rot32_bit _ _ _ (by omega) hj]
  congr 1
  omega
theorem rot64_zero (x : BitVec 64) : rot64 x 0 = x := by
  apply BitVec.eq_of_getLsbD_eq
  intro j hj
  rw [rot64_bit _ _ _ (by omega) hj, show (j + (64 - 0)) % 64 = j by omega]
theorem rot32_zero (x : BitVec 32) : rot32 x 0 = x := by
  apply BitVec.eq_of_getLsbD_eq
  intro j hj
  rw [rot32_bit _ _ _ (by omega) hj, show (j + (32 - 0)) % 32 = j by omega]
theorem rotl64_two (x : BitVec 64) (n m k : Int) (hk : (n + m) % 64 = k % 64) : rotl64 (rotl64 (x.toNat : Int) n) m = rotl64 (x.toNat : Int) k := by
  unfold rotl64
  rw [b64_nat, b64_nat, rot64_two _ _ _ (by omega) (by omega), show ((n % 64).toNat + (m % 64).toNat) % 64 = (k % 64).toNat by omega]
theorem rotl32_two (x : BitVec 32) (n m k : Int) (hk : (n + m) % 32 = k % 32) : rotl32 (rotl32 (x.toNat : Int) n) m = rotl32 (x.toNat : Int) k := by
  unfold rotl32
  rw [b32_nat, b32_nat, rot32_two _ _ _ (by omega) (by omega), show ((n % 32).toNat + (m % 32).toNat) % 32 = (k % 32).toNat by omega]
theorem rotl64_back (x : BitVec 64) (n m : Int) (hk : (n + m) % 64 = 0) : rotl64 (rotl64 (x.toNat : Int) n) m = (x.toNat : Int) := by
  rw [rotl64_two x n m 0 (by omega)]
  unfold rotl64
  rw [b64_nat]
  exact congrArg (fun b : BitVec 64 => (b.toNat : Int)) (rot64_zero x)
theorem rotl32_back (x : BitVec 32) (n m : Int) (hk : (n + m) % 32 = 0) : rotl32 (rotl32 (x.toNat : Int) n) m = (x.toNat : Int) := by
  rw [rotl32_two x n m 0 (by omega)]
  unfold rotl32
  rw [b32_nat]
  exact congrArg (fun b : BitVec 32 => (b.toNat : Int)) (rot32_zero x)
theorem flip_rot (x : BitVec 32) (a b : Nat) (ha : a < 32) (hb : b < 32) (hab : (a + b) % 32 = 0) : flip32 (rot32 x a) = rot32 (flip32 x) b := by
  apply BitVec.eq_of_getLsbD_eq
  intro j hj
  rw [flip32_bit _ _ hj, rot32_bit _ _ _ (by omega) (by omega), rot32_bit _ _ _ (by omega) hj, flip32_bit _ _ (by omega)]
  congr 1
  omega
/-- x, put between lo and hi. -/
def wN (x : Int) (lo hi : Nat) : Nat := if x < (lo : Int) then lo else if (hi : Int) < x then hi else x.toNat
theorem wN_bd (x : Int) (lo hi : Nat) (h : lo ≤ hi) : lo ≤ wN x lo hi ∧ wN x lo hi ≤ hi := by
  unfold wN; split <;> (try split) <;> omega
theorem wN_eq (x : Int) (lo hi : Nat) : (if x < (lo : Int) then (lo : Int) else if (hi : Int) < x then (hi : Int) else x) = (wN x lo hi : Int) := by
  unfold wN; split <;> (try split) <;> (try omega) <;> rfl
theorem mask_eq (X N : Nat) (hX : X < 18446744073709551616) (h1 : 1 ≤ N) (h8 : N < 8) :
    ((X % 256 ^ N : Nat) : Int) = bits .and .u64 (X : Int) (2 ^ (8 * N) - 1) := by
  have hp : 256 ^ N = 2 ^ (8 * N) := by rw [Nat.pow_mul]
  have hp1 : 0 < 2 ^ (8 * N) := Nat.pow_pos (by decide)
  have hle : 2 ^ (8 * N) ≤ 2 ^ 56 := Nat.pow_le_pow_right (by decide) (by omega)
  have e : (2 : Int) ^ (8 * N) - 1 = ((2 ^ (8 * N) - 1 : Nat) : Int) := by
    rw [Int.ofNat_sub hp1]; simp
  rw [e, u64_and_nat _ _ hX (by omega), Nat.and_two_pow_sub_one_eq_mod, hp]
theorem mask_test (X N : Nat) (hX : X < 18446744073709551616) (h1 : 1 ≤ N) (h8 : N < 8) :
    ((getL (putL X N) : Int) == bits .and .u64 (X : Int) (IntKind.u64.wrap (IntKind.u64.wrap (2 ^ (8 * N)) - 1))) = true := by
  have hp1 : 0 < 2 ^ (8 * N) := Nat.pow_pos (by decide)
  have hle : 2 ^ (8 * N) ≤ 2 ^ 56 := Nat.pow_le_pow_right (by decide) (by omega)
  have e : (2 : Int) ^ (8 * N) = ((2 ^ (8 * N) : Nat) : Int) := by simp
  have h := mask_eq X N hX h1 h8
  rw [e] at h ⊢
  rw [IntWalk.u64_in ((2 ^ (8 * N) : Nat) : Int) (by omega), IntWalk.u64_in _ (by omega), getL_putL, h]
  simp
end Go.Hd
