/- Layer 05 (pack): values as trees, and where they lie in memory; what can be. -/
import Derived.Test.YtakliplkabgmbaaLib3
import Derived.Test.YtakliplkabgmbaaLibR
set_option maxRecDepth 20000
namespace Go.Hd
open Go Go.RowKit

/-- A value, as it is packed. -/
inductive PV where
  | mk (kind int : Int) (bytes text : List UInt8) (keys : List (List UInt8)) (list : List PV)
namespace PV
def kind : PV → Int | mk k _ _ _ _ _ => k
def int : PV → Int | mk _ n _ _ _ _ => n
def bytes : PV → List UInt8 | mk _ _ b _ _ _ => b
def text : PV → List UInt8 | mk _ _ _ t _ _ => t
def keys : PV → List (List UInt8) | mk _ _ _ _ k _ => k
def list : PV → List PV | mk _ _ _ _ _ l => l
end PV
def strV (t : List UInt8) : Value := .string (str t)
def in64 (n : Int) : Prop := -9223372036854775808 ≤ n ∧ n ≤ 9223372036854775807
/-- Six cells that hold a value. -/
inductive VAt (w : World) : List Value → PV → Prop
  | mk {k n : Int} {b t : List UInt8} {ks : List (List UInt8)} {l : List PV} {ab ak al : Option Addr} {cb ck cl : Nat} (css : List (List Value))
      (hk : in64 k) (hn : in64 n) (hb : Row w ab (b.map b8)) (hbc : b.length ≤ cb ∧ cb ≤ maxLen) (ht : t.length ≤ maxLen)
      (hks : Row w ak (ks.map strV)) (hkc : ks.length ≤ ck ∧ ck ≤ maxLen) (hkt : ∀ x ∈ ks, x.length ≤ maxLen) (hl : Row w al css.flatten) (hlc : l.length ≤ cl ∧ cl ≤ maxLen) (hcs : css.length = l.length) (h6 : ∀ c ∈ css, c.length = 6)
      (sub : ∀ (i : Nat) (c : List Value) (v : PV), css[i]? = some c → l[i]? = some v → VAt w c v) :
      VAt w [.int .i64 k, .int .i64 n, .slice ab b.length cb, strV t, .slice ak ks.length ck, .slice al l.length cl] (.mk k n b t ks l)
theorem VAt.len {w : World} {cs : List Value} {v : PV} (h : VAt w cs v) : cs.length = 6 := by
  cases h; rfl
theorem VAt.one {w : World} {cs : List Value} {v : PV} (h : VAt w cs v) : ∀ u ∈ cs, u.oneCell' = true := by
  cases h
  intro u hu
  simp only [List.mem_cons, List.not_mem_nil, or_false] at hu
  rcases hu with rfl | rfl | rfl | rfl | rfl | rfl <;> rfl
theorem VAt.keep {w w' : World} {cs : List Value} {v : PV} (h : VAt w cs v) (hb : Below w.heap.size w w') : VAt w' cs v := by
  induction h with
  | mk css hk hn hB hbc ht hks hkc hkt hl hlc hcs h6 _ ih => exact .mk css hk hn (hB.below hb) hbc ht (hks.below hb) hkc hkt (hl.below hb) hlc hcs h6 ih
theorem VAt.drewN {w : World} {cs : List Value} {v : PV} (h : VAt w cs v) (n : Nat) : VAt (w.drewN n) cs v := h.keep (Below.drewN (Below.refl _ _) n)
/-- The zero value. -/
def pv0 : PV := .mk 0 0 [] [] [] []
theorem VAt.zero (w : World) : VAt w [.int .i64 0, .int .i64 0, .slice none 0 0, strV [], .slice none 0 0, .slice none 0 0] pv0 :=
  .mk (b := []) (t := []) (ks := []) (l := []) [] (by unfold in64; omega) (by unfold in64; omega) (Row.nil _ _) ⟨Nat.le_refl _, Nat.zero_le _⟩ (Nat.zero_le _) (Row.nil _ _) ⟨Nat.le_refl _, Nat.zero_le _⟩ (by simp) (Row.nil _ _) ⟨Nat.le_refl _, Nat.zero_le _⟩ rfl (by simp) (by simp)
theorem VAt.num (w : World) {n : Int} (h : in64 n) : VAt w [.int .i64 3, .int .i64 n, .slice none 0 0, strV [], .slice none 0 0, .slice none 0 0] (.mk 3 n [] [] [] []) :=
  .mk (b := []) (t := []) (ks := []) (l := []) [] (by unfold in64; omega) h (Row.nil _ _) ⟨Nat.le_refl _, Nat.zero_le _⟩ (Nat.zero_le _) (Row.nil _ _) ⟨Nat.le_refl _, Nat.zero_le _⟩ (by simp) (Row.nil _ _) ⟨Nat.le_refl _, Nat.zero_le _⟩ rfl (by simp) (by simp)

/-! What can be. -/
/-- A text is not behind another one. -/
def leT (a b : List UInt8) : Bool := Op.bytesLess (str a).toList (str b).toList || (str a).toList == (str b).toList
def risesT : List (List UInt8) → Bool
  | a :: b :: l => !leT b a && risesT (b :: l)
  | _ => true
theorem risesT_snoc : ∀ (l : List (List UInt8)) (r s : List UInt8), risesT (l ++ [r, s]) = (risesT (l ++ [r]) && !leT s r)
  | [], r, s => by simp [risesT]
  | [x], r, s => by simp [risesT]
  | x :: y :: l, r, s => by
    have := risesT_snoc (y :: l) r s
    simp only [List.cons_append, risesT] at *
    rw [this, Bool.and_assoc]
theorem risesT_take (l : List (List UInt8)) (i : Nat) (h : i + 1 < l.length) : risesT (l.take (i + 2)) = (risesT (l.take (i + 1)) && !leT l[i + 1] l[i]) := by
  rw [List.take_succ_eq_append_getElem h, List.take_succ_eq_append_getElem (by omega : i < l.length), List.append_assoc]
  exact risesT_snoc _ _ _
theorem risesT_one (l : List (List UInt8)) : risesT (l.take 1) = true := by
  match l with
  | [] => rfl
  | x :: l => rfl
theorem risesT_of (l : List (List UInt8)) (n : Nat) (h : risesT l = true) : risesT (l.take n) = true := by
  induction l generalizing n with
  | nil => simp [risesT]
  | cons r l ih =>
    match n, l with
    | 0, _ => rfl
    | 1, _ => simp [risesT]
    | n + 2, [] => simp [risesT]
    | n + 2, s :: l =>
      simp only [risesT, Bool.and_eq_true] at h
      have := ih (n + 1) h.2
      simp only [List.take_succ_cons, risesT, h.1, Bool.true_and] at this ⊢
      exact this
def canF : Nat → PV → Bool
  | 0, _ => false
  | d + 1, v => decide (0 ≤ v.kind ∧ v.kind ≤ 7) && (v.kind != 7 || (v.keys.length == v.list.length && risesT v.keys)) && (decide (v.kind < 6) || v.list.all (canF d))

/-! Which bytes a value has. -/
def bigB (x : Nat) (n : Nat) : List UInt8 := (putL x n).reverse
def u64Of (x : Int) : Nat := (x % 18446744073709551616).toNat
def intB (x : Int) : List UInt8 :=
  if -32 ≤ x ∧ x ≤ 127 then [UInt8.ofNat (x % 256).toNat] else
  if 0 ≤ x then
    if x ≤ 255 then 0xcc :: bigB (u64Of x) 1 else if x ≤ 65535 then 0xcd :: bigB (u64Of x) 2 else if x ≤ 4294967295 then 0xce :: bigB (u64Of x) 4 else 0xcf :: bigB (u64Of x) 8
  else
    if -128 ≤ x then 0xd0 :: bigB (u64Of x) 1 else if -32768 ≤ x then 0xd1 :: bigB (u64Of x) 2 else if -2147483648 ≤ x then 0xd2 :: bigB (u64Of x) 4 else 0xd3 :: bigB (u64Of x) 8
theorem intB_len (x : Int) : 1 ≤ (intB x).length ∧ (intB x).length ≤ 9 := by
  unfold intB bigB
  repeat' split
  all_goals simp
theorem intB_nonneg {x y : Int} (hx : 0 ≤ x) (hxy : x ≤ y) : (intB x).length ≤ (intB y).length := by
  unfold intB bigB
  repeat' split
  all_goals simp
  all_goals omega
theorem intB_neg {x y : Int} (hx : x < 0) (hxy : y ≤ x) : (intB x).length ≤ (intB y).length := by
  unfold intB bigB
  repeat' split
  all_goals simp
  all_goals omega
end Go.Hd
