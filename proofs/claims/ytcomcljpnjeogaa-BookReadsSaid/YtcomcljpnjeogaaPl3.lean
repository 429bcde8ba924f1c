/- Plain laws of layer 3 (xxh): lanes, tails, sums. -/
import Derived.Test.YtcomcljpnjeogaaPl1
set_option maxRecDepth 20000
namespace Go.Hd
open Go

def P1 : BitVec 64 := 0x9e3779b185ebca87#64
def P2 : BitVec 64 := 0xc2b2ae3d27d4eb4f#64
def P3 : BitVec 64 := 0x165667b19e3779f9#64
def P4 : BitVec 64 := 0x85ebca77c2b2ae63#64
def P5 : BitVec 64 := 0x27d4eb2f165667c5#64
/-- A lane takes eight bytes, as a number. -/
def laneF (a w : BitVec 64) : BitVec 64 := rot64 (a + w * P2) 31 * P1
/-- Up to eight bytes as a number. -/
def numF (l : List UInt8) : BitVec 64 := BitVec.ofNat 64 (getL l)
theorem numF_nat (l : List UInt8) (h : l.length ≤ 8) : (getL l : Int) = ((numF l).toNat : Int) := by
  have := getL_small l h
  unfold numF
  rw [BitVec.toNat_ofNat]
  omega
def lane0 (seed : BitVec 64) : Nat → BitVec 64
  | 0 => seed + P1 + P2
  | 1 => seed + P2
  | 2 => seed
  | _ => seed - P1
/-- Lane k behind j thirty-twos. -/
def lanes (l : List UInt8) (seed : BitVec 64) (k : Nat) : Nat → BitVec 64
  | 0 => lane0 seed k
  | j + 1 => laneF (lanes l seed k j) (numF ((l.drop (32 * j + 8 * k)).take 8))
theorem lanes_append (l m : List UInt8) (seed : BitVec 64) (k : Nat) (hk : k < 4) : ∀ j, 32 * j ≤ l.length → lanes (l ++ m) seed k j = lanes l seed k j
  | 0, _ => rfl
  | j + 1, h => by
    show laneF _ _ = laneF _ _
    rw [lanes_append l m seed k hk j (by omega), List.drop_append_of_le_length (by omega), List.take_append_of_le_length (by simp; omega)]
def mixF (x a : BitVec 64) : BitVec 64 := (x ^^^ laneF 0#64 a) * P1 + P4
def startF (a b c d : BitVec 64) : BitVec 64 := rot64 a 1 + rot64 b 7 + rot64 c 12 + rot64 d 18
def joinF (a b c d : BitVec 64) : BitVec 64 := mixF (mixF (mixF (mixF (startF a b c d) a) b) c) d
def step8 (x : BitVec 64) (l : List UInt8) : BitVec 64 := rot64 (x ^^^ laneF 0#64 (numF (l.take 8))) 27 * P1 + P4
def step4 (x : BitVec 64) (l : List UInt8) : BitVec 64 := rot64 (x ^^^ numF (l.take 4) * P1) 23 * P2 + P3
def step1 (x : BitVec 64) (c : UInt8) : BitVec 64 := rot64 (x ^^^ BitVec.ofNat 64 c.toNat * P5) 11 * P1
def tail8 (l : List UInt8) (x : BitVec 64) : Nat → BitVec 64
  | 0 => x
  | j + 1 => step8 (tail8 l x j) (l.drop (8 * j))
def tail1 (l : List UInt8) (x : BitVec 64) : Nat → BitVec 64
  | 0 => x
  | j + 1 => match l[j]? with
    | some c => step1 (tail1 l x j) c
    | none => tail1 l x j
theorem tail1_step (l : List UInt8) (x : BitVec 64) (j : Nat) (h : j < l.length) : tail1 l x (j + 1) = step1 (tail1 l x j) l[j] := by
  show (match l[j]? with | some c => _ | none => _) = _
  rw [List.getElem?_eq_getElem h]
/-- Behind the eights: the four, if there is one. -/
def tail4 (l : List UInt8) (x : BitVec 64) : BitVec 64 := if 4 ≤ l.length then step4 x l else x
def rest4 (l : List UInt8) : List UInt8 := if 4 ≤ l.length then l.drop 4 else l
def tailF (x : BitVec 64) (l : List UInt8) : BitVec 64 :=
  tail1 (rest4 (l.drop (8 * (l.length / 8)))) (tail4 (l.drop (8 * (l.length / 8))) (tail8 l x (l.length / 8))) (rest4 (l.drop (8 * (l.length / 8)))).length
def finF (x : BitVec 64) : BitVec 64 :=
  let y := (x ^^^ x >>> 33) * P2
  let z := (y ^^^ y >>> 29) * P3
  z ^^^ z >>> 32
def aheadF (l : List UInt8) (seed : BitVec 64) : BitVec 64 :=
  if 32 ≤ l.length then joinF (lanes l seed 0 (l.length / 32)) (lanes l seed 1 (l.length / 32)) (lanes l seed 2 (l.length / 32)) (lanes l seed 3 (l.length / 32)) else seed + P5
/-- The sum. -/
def sumF (l : List UInt8) (seed : BitVec 64) : BitVec 64 := finF (tailF (aheadF l seed + BitVec.ofNat 64 l.length) (l.drop (32 * (l.length / 32))))

theorem sum_nil : sumF [] 0 = 0xef46db3751d8e999#64 := by decide
theorem sum_a : sumF [97] 0 = 0xd24ec4f1a98c6e5b#64 := by decide
theorem sum_abc : sumF [97, 98, 99] 0 = 0x44bc2cf5ad770999#64 := by decide

/-! Raw arithmetic as it stands in a walk, to bit vectors. -/
theorem B64_mod (x : Int) : B64 (x % 18446744073709551616) = B64 x := by
  apply BitVec.eq_of_toNat_eq
  simp only [BitVec.toNat_ofInt]
  omega
theorem B64_add (x y : Int) : B64 (x + y) = B64 x + B64 y := by
  show BitVec.ofInt 64 _ = BitVec.ofInt 64 _ + BitVec.ofInt 64 _
  rw [BitVec.ofInt_add]
theorem B64_mul (x y : Int) : B64 (x * y) = B64 x * B64 y := by
  show BitVec.ofInt 64 _ = BitVec.ofInt 64 _ * BitVec.ofInt 64 _
  rw [BitVec.ofInt_mul]
theorem B64_sub (x y : Int) : B64 (x - y) = B64 x - B64 y := by
  rw [Int.sub_eq_add_neg, B64_add, BitVec.sub_eq_add_neg]
  congr 1
  exact BitVec.ofInt_neg
theorem B64_wrap (x : Int) : B64 (IntKind.u64.wrap x) = B64 x := by rw [IntKind.wrap_u64]; exact B64_mod x
theorem mod_eq {x : Int} {y : BitVec 64} (h : B64 x = y) : x % 18446744073709551616 = (y.toNat : Int) := by
  rw [← h, ← w64, IntKind.wrap_u64]
theorem wrap_eq {x : Int} {y : BitVec 64} (h : B64 x = y) : IntKind.u64.wrap x = (y.toNat : Int) := by rw [← h, ← w64]
theorem B64_p1 : B64 11400714785074694791 = P1 := by decide
theorem B64_p2 : B64 14029467366897019727 = P2 := by decide
theorem B64_p3 : B64 1609587929392839161 = P3 := by decide
theorem B64_p4 : B64 9650029242287828579 = P4 := by decide
theorem B64_p5 : B64 2870177450012600261 = P5 := by decide
end Go.Hd
