/- Layer 20: what a set and a row of tokens say, plain. -/
import Derived.Test.YtcanlgcifnjfaaaDoorPt2
set_option maxRecDepth 20000
namespace Go.Hd
/-- Bytes, and rows of them. -/
def amongB : List UInt8 → Nat → Bool
  | [], _ => false
  | [a], x => a.toNat == x
  | [a, m], x => a.toNat == x || m.toNat == x
  | a :: m :: b :: r, x => if m = 45 then (decide (a.toNat ≤ x) && decide (x ≤ b.toNat)) || amongB r x else a.toNat == x || amongB (m :: b :: r) x
theorem amongB_range {a b : UInt8} {r : List UInt8} (x : Nat) : amongB (a :: 45 :: b :: r) x = ((decide (a.toNat ≤ x) && decide (x ≤ b.toNat)) || amongB r x) := by
  rw [amongB, if_pos rfl]
theorem amongB_one {a : UInt8} {r : List UInt8} (h : ∀ b r', r ≠ 45 :: b :: r') (x : Nat) : amongB (a :: r) x = (a.toNat == x || amongB r x) := by
  match r, h with
  | [], _ => simp [amongB]
  | [m], _ => simp [amongB]
  | m :: b :: r', h =>
    rw [amongB, if_neg (fun e => h b r' (by rw [e]))]
/-- Where a set's bytes begin: behind a '!'. -/
def frF (s : List UInt8) : Nat := if beginsB s [33] then 1 else 0
def setF (s : List UInt8) : Option ((Nat → Bool) × Nat) :=
  if s.length ≤ frF s + 1 then none
  else if Lib.indexByte (s.drop (frF s + 1)) 93 < 0 then none
  else some (fun x => amongB ((s.drop (frF s)).take ((Lib.indexByte (s.drop (frF s + 1)) 93).toNat + 1)) x != (frF s == 1), (Lib.indexByte (s.drop (frF s + 1)) 93).toNat + frF s + 2)
theorem tokC_set (g : Nat → Bool) {x : Nat} (_hx : x < 256) (b : Bool) : (tokC (.set g)).set (2 + x) (.int .u8 (if b then 1 else 0)) = tokC (.set (fun j => if j = x then b else g j)) := by
  have e : (bitsC g).set x (.int .u8 (if b then 1 else 0)) = bitsC (fun j => if j = x then b else g j) := by
    apply List.ext_getElem?
    intro j
    by_cases hj : j < 256
    · rw [bitsC_at _ hj]
      by_cases hk : x = j
      · subst hk
        rw [List.getElem?_set_self (by rw [bitsC_len]; exact hj), if_pos rfl]
      · rw [List.getElem?_set_ne hk, bitsC_at _ hj, if_neg (Ne.symm hk)]
    · rw [List.getElem?_eq_none (by rw [List.length_set, bitsC_len]; omega), List.getElem?_eq_none (by rw [bitsC_len]; omega)]
  rw [Nat.add_comm]
  show Value.int .i64 3 :: Value.int .u8 0 :: (bitsC g).set x (.int .u8 (if b then 1 else 0)) = Value.int .i64 3 :: Value.int .u8 0 :: bitsC (fun j => if j = x then b else g j)
  rw [e]
theorem tokC_congr {f g : Nat → Bool} (h : ∀ x, x < 256 → f x = g x) : tokC (.set f) = tokC (.set g) := by
  have e : bitsC f = bitsC g := by
    unfold bitsC
    exact List.map_congr_left (fun j hj => by rw [h j (List.mem_range.1 hj)])
  show Value.int .i64 3 :: Value.int .u8 0 :: bitsC f = Value.int .i64 3 :: Value.int .u8 0 :: bitsC g
  rw [e]
/-- The tokens of what follows a style; sl: whether a folder may begin here. -/
def toksF (sh : Bool) : Nat → Bool → List UInt8 → Option (List Tok)
  | 0, _, _ => none
  | n + 1, sl, s =>
    if s = [] then some []
    else if sh = true ∧ sl = true ∧ beginsB s [42, 42, 47] = true then (toksF sh n true (s.drop 3)).map (.deep :: ·)
    else match s with
      | [] => some []
      | c :: r =>
        if c = 42 then (toksF sh n false r).map (.star :: ·)
        else if c = 63 then (toksF sh n false r).map (.any1 :: ·)
        else if c = 91 then match setF r with
          | none => none
          | some (f, k) => (toksF sh n false (r.drop k)).map (.set f :: ·)
        else (toksF sh n (c == 47) r).map (.one c :: ·)
end Go.Hd
