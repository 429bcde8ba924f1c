/- Plain laws of layer 13 (book): which bytes rows are, which rows bytes are. -/
import Derived.Test.YtcomcljpnjeogaaPl3
import Derived.Lib.Bytealg
set_option maxRecDepth 20000
namespace Go.Hd
open Go

/-- A row: its key (or nothing), its numbers. -/
abbrev BRow := List UInt8 × List Int
/-- A kind of books. -/
structure BKind where
  magic : List UInt8
  key : Nat
  nums : Nat
def kI : BKind := ⟨[72, 79, 65, 82, 68, 73, 68, 88], 32, 3⟩
def kC : BKind := ⟨[72, 79, 65, 82, 68, 82, 69, 70], 32, 2⟩
def kU : BKind := ⟨[72, 79, 65, 82, 68, 85, 83, 69], 0, 3⟩
def BKind.size (k : BKind) : Nat := k.key + 4 * k.nums
def BKind.good (k : BKind) : Prop := k.magic.length = 8 ∧ (k.key = 32 ∨ k.key = 0) ∧ 1 ≤ k.nums ∧ k.nums ≤ 3
theorem kI_good : kI.good := by unfold BKind.good kI; simp
theorem kC_good : kC.good := by unfold BKind.good kC; simp
theorem kU_good : kU.good := by unfold BKind.good kU; simp

def ltB (a b : List UInt8) : Bool := decide (Lib.compareBytes a b < 0)
theorem cmp_cons_eq (c : UInt8) (a b : List UInt8) : Lib.compareBytes (c :: a) (c :: b) = Lib.compareBytes a b := by
  rw [Lib.compareBytes, if_neg (UInt8.lt_irrefl c), if_neg (UInt8.lt_irrefl c)]
theorem ltB_ne {c d : UInt8} (h : c ≠ d) (a b : List UInt8) : ltB (c :: a) (d :: b) = decide (c < d) := by
  unfold ltB
  rw [Lib.compareBytes]
  by_cases h1 : c < d
  · simp [h1]
  · have h2 : d < c := UInt8.lt_of_le_of_ne (UInt8.not_lt.1 h1) (Ne.symm h)
    simp [h1, h2]
theorem ltB_same (a : List UInt8) : ltB a a = false := by
  induction a with
  | nil => rfl
  | cons c a ih => unfold ltB at *; rw [cmp_cons_eq]; exact ih
theorem ltB_at {a b : List UInt8} {i : Nat} (ha : i < a.length) (hb : i < b.length) (ht : a.take i = b.take i) (hne : a[i] ≠ b[i]) : ltB a b = decide (a[i] < b[i]) := by
  induction i generalizing a b with
  | zero =>
    match a, b with
    | c :: a, d :: b => exact ltB_ne hne _ _
  | succ i ih =>
    match a, b with
    | c :: a, d :: b =>
      simp only [List.take_succ_cons, List.cons.injEq] at ht
      obtain ⟨rfl, ht⟩ := ht
      have := ih (a := a) (b := b) (by simpa using ha) (by simpa using hb) ht (by simpa using hne)
      unfold ltB at *
      rw [cmp_cons_eq]
      simpa using this

/-- A number's four bytes. -/
def numB (n : Int) : List UInt8 := putL (n % 18446744073709551616).toNat 4
theorem numB_length (n : Int) : (numB n).length = 4 := by simp [numB]
def numsB (l : List Int) : List UInt8 := l.flatMap numB
theorem numsB_length (l : List Int) : (numsB l).length = 4 * l.length := by
  induction l with
  | nil => rfl
  | cons n l ih => simp only [numsB, List.flatMap_cons, List.length_append, numB_length, List.length_cons] at *; omega
theorem numsB_take (l : List Int) (k : Nat) (h : k < l.length) : numsB (l.take (k + 1)) = numsB (l.take k) ++ numB l[k] := by
  rw [List.take_succ_eq_append_getElem h]
  simp only [numsB, List.flatMap_append, List.flatMap_cons, List.flatMap_nil, List.append_nil]
def rowB (r : BRow) : List UInt8 := r.1 ++ numsB r.2
def rowsB (l : List BRow) : List UInt8 := l.flatMap rowB
theorem rowsB_take (l : List BRow) (k : Nat) (h : k < l.length) : rowsB (l.take (k + 1)) = rowsB (l.take k) ++ rowB l[k] := by
  rw [List.take_succ_eq_append_getElem h]
  simp only [rowsB, List.flatMap_append, List.flatMap_cons, List.flatMap_nil, List.append_nil]
def okN (n : Int) : Bool := decide (0 ≤ n) && decide (n ≤ 4294967295)
def okR (r : BRow) : Bool := r.2.all okN
def aheadB (k : BKind) (r s : BRow) : Bool := if k.key = 32 then ltB r.1 s.1 else decide (r.2.getD 0 0 < s.2.getD 0 0)
def risesB (k : BKind) : List BRow → Bool
  | r :: s :: l => aheadB k r s && risesB k (s :: l)
  | _ => true
theorem risesB_snoc (k : BKind) : ∀ (l : List BRow) (r s : BRow), risesB k (l ++ [r, s]) = (risesB k (l ++ [r]) && aheadB k r s)
  | [], r, s => by simp [risesB]
  | [x], r, s => by simp [risesB]
  | x :: y :: l, r, s => by
    have := risesB_snoc k (y :: l) r s
    simp only [List.cons_append, risesB] at *
    rw [this, Bool.and_assoc]
theorem risesB_take (k : BKind) (l : List BRow) (i : Nat) (h : i + 1 < l.length) : risesB k (l.take (i + 2)) = (risesB k (l.take (i + 1)) && aheadB k l[i] l[i + 1]) := by
  rw [List.take_succ_eq_append_getElem h, List.take_succ_eq_append_getElem (by omega : i < l.length), List.append_assoc]
  exact risesB_snoc k _ _ _
theorem risesB_one (k : BKind) (l : List BRow) : risesB k (l.take 1) = true := by
  match l with
  | [] => rfl
  | x :: l => rfl
theorem risesB_take_of (k : BKind) (l : List BRow) (n : Nat) (h : risesB k l = true) : risesB k (l.take n) = true := by
  induction l generalizing n with
  | nil => simp [risesB]
  | cons r l ih =>
    match n, l with
    | 0, _ => rfl
    | 1, _ => simp [risesB]
    | n + 2, [] => simp [risesB]
    | n + 2, s :: l =>
      simp only [risesB, Bool.and_eq_true] at h
      have := ih (n + 1) h.2
      simp only [List.take_succ_cons, risesB, h.1, Bool.true_and] at this ⊢
      exact this

def headF (k : BKind) (n : Nat) : List UInt8 := k.magic ++ putL n 4
def bodyF (k : BKind) (l : List BRow) : List UInt8 := headF k l.length ++ rowsB l
def closedF (b : List UInt8) : List UInt8 := b ++ putL (sumF b 0).toNat 8
/-- A book's bytes, or why there is none. -/
def writeF (k : BKind) (l : List BRow) : List UInt8 × Int :=
  if 65536 < l.length then ([], 16) else if l.all okR = false then ([], 2) else if risesB k l = false then ([], 18) else (closedF (bodyF k l), 0)

def rowF (k : BKind) (b : List UInt8) : BRow := (b.take k.key, (List.range k.nums).map fun i => (getL ((b.drop (k.key + 4 * i)).take 4) : Int))
def rowsF (k : BKind) (b : List UInt8) (n : Nat) : List BRow := (List.range n).map fun i => rowF k (b.drop (i * k.size))
theorem rowsF_length (k : BKind) (b : List UInt8) (n : Nat) : (rowsF k b n).length = n := by simp [rowsF]
theorem rowsF_succ (k : BKind) (b : List UInt8) (n : Nat) : rowsF k b (n + 1) = rowsF k b n ++ [rowF k (b.drop (n * k.size))] := by simp [rowsF, List.range_succ]
/-- The errors ahead of the rows' order. -/
def rowsE (k : BKind) (b : List UInt8) : Int :=
  if b.length < 12 then 3 else
  if b.take 8 ≠ k.magic ∨ 65536 < getL ((b.drop 8).take 4) then 4 else
  if b.length < 20 + getL ((b.drop 8).take 4) * k.size then 3 else
  if 20 + getL ((b.drop 8).take 4) * k.size < b.length then 6 else
  if getL (b.drop (12 + getL ((b.drop 8).take 4) * k.size)) ≠ (sumF (b.take (12 + getL ((b.drop 8).take 4) * k.size)) 0).toNat then 13 else 0
def cntF (b : List UInt8) : Nat := getL ((b.drop 8).take 4)
def readF (k : BKind) (b : List UInt8) : List BRow × Int :=
  if rowsE k b ≠ 0 then ([], rowsE k b) else if risesB k (rowsF k (b.drop 12) (cntF b)) = false then ([], 18) else (rowsF k (b.drop 12) (cntF b), 0)

/-! There and back. -/
def fitR (k : BKind) (r : BRow) : Prop := r.1.length = k.key ∧ r.2.length = k.nums
theorem rowB_length {k : BKind} {r : BRow} (h : fitR k r) : (rowB r).length = k.size := by
  simp only [rowB, List.length_append, numsB_length, h.1, h.2, BKind.size]
theorem rowsB_length {k : BKind} {l : List BRow} (h : ∀ r ∈ l, fitR k r) : (rowsB l).length = l.length * k.size := by
  induction l with
  | nil => simp [rowsB]
  | cons r l ih =>
    have h1 := ih (fun x hx => h x (by simp [hx]))
    have h2 := rowB_length (h r (by simp))
    simp only [rowsB, List.flatMap_cons, List.length_append, List.length_cons, Nat.add_mul] at *
    omega
theorem getL_numB {n : Int} (h : okN n = true) : (getL (numB n) : Int) = n := by
  simp only [okN, Bool.and_eq_true, decide_eq_true_eq] at h
  rw [numB, getL_putL, show (256 ^ 4 : Nat) = 4294967296 by decide]
  omega
theorem nums_at (l : List Int) (t : List UInt8) (i : Nat) (h : i < l.length) : ((numsB l ++ t).drop (4 * i)).take 4 = numB l[i] := by
  induction l generalizing i with
  | nil => simp at h
  | cons n l ih =>
    have e : numsB (n :: l) = numB n ++ numsB l := rfl
    rw [e]
    cases i with
    | zero =>
      rw [Nat.mul_zero, List.drop_zero, List.append_assoc]
      exact List.take_left' (numB_length n)
    | succ i =>
      rw [show 4 * (i + 1) = 4 + 4 * i by omega, ← List.drop_drop, List.append_assoc, List.drop_left' (numB_length n)]
      exact ih i (by simpa using h)
theorem rowF_rowB {k : BKind} {r : BRow} (h : fitR k r) (ho : okR r = true) (t : List UInt8) : rowF k (rowB r ++ t) = r := by
  obtain ⟨a, l⟩ := r
  obtain ⟨h1, h2⟩ := h
  simp only at h1 h2
  simp only [rowF, rowB]
  refine Prod.ext ?_ ?_
  · rw [List.append_assoc]; exact List.take_left' h1
  · simp only
    apply List.ext_getElem?
    intro i
    by_cases hi : i < l.length
    · have hok : okN l[i] = true := by
        simp only [okR, List.all_eq_true] at ho
        exact ho _ (List.getElem_mem hi)
      rw [List.getElem?_map, List.getElem?_range (by omega), Option.map_some, ← List.drop_drop, List.append_assoc, List.drop_left' h1, nums_at l t i hi, getL_numB hok, List.getElem?_eq_getElem hi]
    · rw [List.getElem?_eq_none (by simp; omega), List.getElem?_eq_none (by omega)]
theorem rowsF_rowsB {k : BKind} {l : List BRow} (h : ∀ r ∈ l, fitR k r) (ho : l.all okR = true) (t : List UInt8) : rowsF k (rowsB l ++ t) l.length = l := by
  induction l with
  | nil => rfl
  | cons r l ih =>
    have h1 := h r (by simp)
    simp only [List.all_cons, Bool.and_eq_true] at ho
    have h2 := ih (fun x hx => h x (by simp [hx])) ho.2
    have e : rowsB (r :: l) = rowB r ++ rowsB l := rfl
    rw [e, List.append_assoc]
    unfold rowsF at *
    rw [List.length_cons, List.range_succ_eq_map, List.map_cons, Nat.zero_mul, List.drop_zero, rowF_rowB h1 ho.1, List.map_map]
    congr 1
    refine Eq.trans ?_ h2
    apply List.map_congr_left
    intro i _
    simp only [Function.comp]
    rw [Nat.succ_mul, Nat.add_comm, ← List.drop_drop, List.drop_left' (rowB_length h1)]
theorem headF_length {k : BKind} (hk : k.good) (n : Nat) : (headF k n).length = 12 := by simp [headF, hk.1]
theorem bodyF_length {k : BKind} (hk : k.good) {l : List BRow} (h : ∀ r ∈ l, fitR k r) : (bodyF k l).length = 12 + l.length * k.size := by
  rw [bodyF, List.length_append, headF_length hk, rowsB_length h]
theorem book_length {k : BKind} (hk : k.good) {l : List BRow} (h : ∀ r ∈ l, fitR k r) : (closedF (bodyF k l)).length = 20 + l.length * k.size := by
  rw [closedF, List.length_append, bodyF_length hk h, putL_length]; omega
theorem book_magic {k : BKind} (hk : k.good) (l : List BRow) (t : List UInt8) : (closedF (bodyF k l) ++ t).take 8 = k.magic := by
  simp only [closedF, bodyF, headF, List.append_assoc]
  exact List.take_left' hk.1
theorem book_cnt {k : BKind} (hk : k.good) (l : List BRow) (hl : l.length ≤ 65536) (t : List UInt8) : cntF (closedF (bodyF k l) ++ t) = l.length := by
  unfold cntF
  simp only [closedF, bodyF, headF, List.append_assoc]
  rw [List.drop_left' hk.1, List.take_left' (putL_length _ _), getL_putL]
  exact Nat.mod_eq_of_lt (by have : (256 ^ 4 : Nat) = 4294967296 := by decide
                             omega)
theorem write_ok {k : BKind} {l : List BRow} (h : (writeF k l).2 = 0) : l.length ≤ 65536 ∧ l.all okR = true ∧ risesB k l = true ∧ writeF k l = (closedF (bodyF k l), 0) := by
  unfold writeF at *
  by_cases h1 : 65536 < l.length
  · rw [if_pos h1] at h; simp at h
  · rw [if_neg h1] at h ⊢
    by_cases h2 : l.all okR = false
    · rw [if_pos h2] at h; simp at h
    · rw [if_neg h2] at h ⊢
      by_cases h3 : risesB k l = false
      · rw [if_pos h3] at h; simp at h
      · rw [if_neg h3] at h ⊢
        exact ⟨by omega, by simpa using h2, by simpa using h3, rfl⟩
theorem sum_lt (l : List UInt8) (s : BitVec 64) : (sumF l s).toNat < 256 ^ 8 := by
  have := (sumF l s).isLt
  have e : (256 ^ 8 : Nat) = 2 ^ 64 := by decide
  omega
theorem book_rowsE {k : BKind} (hk : k.good) {l : List BRow} (h : ∀ r ∈ l, fitR k r) (hl : l.length ≤ 65536) : rowsE k (closedF (bodyF k l)) = 0 := by
  have e1 := book_length hk h
  have e2 := book_magic hk l []
  have e3 := book_cnt hk l hl []
  rw [List.append_nil] at e2 e3
  unfold cntF at e3
  unfold rowsE
  rw [e1, e2, e3]
  have hb : closedF (bodyF k l) = bodyF k l ++ putL (sumF (bodyF k l) 0).toNat 8 := rfl
  have hbl := bodyF_length hk h
  rw [hb, List.drop_left' hbl, List.take_left' hbl, getL_putL, Nat.mod_eq_of_lt (sum_lt _ _)]
  rw [if_neg (by omega), if_neg (by simp; omega), if_neg (by omega), if_neg (by omega), if_neg (by simp)]
/-- What is written is read as it was. -/
theorem read_write {k : BKind} (hk : k.good) {l : List BRow} (h : ∀ r ∈ l, fitR k r) (hw : (writeF k l).2 = 0) : readF k (writeF k l).1 = (l, 0) := by
  obtain ⟨hl, ho, hr, e⟩ := write_ok hw
  rw [e]
  simp only [readF]
  rw [book_rowsE hk h hl, if_neg (by simp)]
  have e3 := book_cnt hk l hl []
  rw [List.append_nil] at e3
  rw [e3]
  have e4 : (closedF (bodyF k l)).drop 12 = rowsB l ++ putL (sumF (bodyF k l) 0).toNat 8 := by
    simp only [closedF, bodyF, List.append_assoc]
    exact List.drop_left' (headF_length hk _)
  rw [e4, rowsF_rowsB h ho, hr, if_neg (by simp)]
/-- It is no book of another kind. -/
theorem read_other {k k' : BKind} (hk : k.good) {l : List BRow} (h : ∀ r ∈ l, fitR k r) (hw : (writeF k l).2 = 0) (hne : k.magic ≠ k'.magic) : readF k' (writeF k l).1 = ([], 4) := by
  obtain ⟨hl, ho, hr, e⟩ := write_ok hw
  rw [e]
  have e1 := book_length hk h
  have e2 := book_magic hk l []
  rw [List.append_nil] at e2
  have : rowsE k' (closedF (bodyF k l)) = 4 := by
    unfold rowsE
    rw [if_neg (by omega), if_pos (.inl (by rw [e2]; exact hne))]
  simp only [readF, this]
  rw [if_pos (by decide)]
/-- A beginning is none, nor is it with something behind. -/
theorem read_cut {k : BKind} (hk : k.good) {l : List BRow} (h : ∀ r ∈ l, fitR k r) (hw : (writeF k l).2 = 0) (m : Nat) (hm : m < (writeF k l).1.length) : readF k ((writeF k l).1.take m) = ([], 3) := by
  obtain ⟨hl, ho, hr, e⟩ := write_ok hw
  rw [e] at hm ⊢
  simp only at hm ⊢
  have e1 := book_length hk h
  have e2 := book_magic hk l []
  have e3 := book_cnt hk l hl []
  rw [List.append_nil] at e2 e3
  unfold cntF at e3
  have e4 : ((closedF (bodyF k l)).take m).length = m := by simp; omega
  have : rowsE k ((closedF (bodyF k l)).take m) = 3 := by
    unfold rowsE
    rw [e4]
    by_cases h12 : m < 12
    · rw [if_pos h12]
    · have e5 : ((closedF (bodyF k l)).take m).take 8 = k.magic := by rw [List.take_take, Nat.min_eq_left (by omega)]; exact e2
      have e6 : (((closedF (bodyF k l)).take m).drop 8).take 4 = ((closedF (bodyF k l)).drop 8).take 4 := by
        rw [List.drop_take, List.take_take, Nat.min_eq_left (by omega)]
      rw [e5, e6, e3, if_neg h12, if_neg (by simp; omega), if_pos (by omega)]
  simp only [readF, this]
  rw [if_pos (by decide)]
theorem read_more {k : BKind} (hk : k.good) {l : List BRow} (h : ∀ r ∈ l, fitR k r) (hw : (writeF k l).2 = 0) (c : UInt8) : readF k ((writeF k l).1 ++ [c]) = ([], 6) := by
  obtain ⟨hl, ho, hr, e⟩ := write_ok hw
  rw [e]
  simp only
  have e1 := book_length hk h
  have e2 := book_magic hk l [c]
  have e3 := book_cnt hk l hl [c]
  unfold cntF at e3
  have e4 : (closedF (bodyF k l) ++ [c]).length = 21 + l.length * k.size := by simp; omega
  have : rowsE k (closedF (bodyF k l) ++ [c]) = 6 := by
    unfold rowsE
    rw [e4, e2, e3, if_neg (by omega), if_neg (by simp; omega), if_neg (by omega), if_pos (by omega)]
  simp only [readF, this]
  rw [if_pos (by decide)]

/-! Read and written again. -/
theorem rowF_fit {k : BKind} {b : List UInt8} (h : k.size ≤ b.length) : fitR k (rowF k b) := by
  refine ⟨?_, by simp [rowF]⟩
  simp only [rowF, List.length_take]
  have : k.key ≤ k.size := by unfold BKind.size; omega
  omega
theorem okN_get (l : List UInt8) : okN (getL (l.take 4) : Int) = true := by
  have h := getL_lt (l.take 4)
  have h2 : 256 ^ (l.take 4).length ≤ 256 ^ 4 := Nat.pow_le_pow_right (by decide) (by simp; omega)
  have h3 : (256 ^ 4 : Nat) = 4294967296 := by decide
  simp only [okN, Bool.and_eq_true, decide_eq_true_eq]
  omega
theorem okR_rowF (k : BKind) (b : List UInt8) : okR (rowF k b) = true := by
  simp only [okR, rowF, List.all_eq_true, List.mem_map]
  rintro n ⟨i, _, rfl⟩
  exact okN_get _
theorem numB_get {l : List UInt8} (h : l.length = 4) : numB (getL l : Int) = l := by
  have h1 := getL_lt l
  rw [h, show (256 ^ 4 : Nat) = 4294967296 by decide] at h1
  have e : ((getL l : Int) % 18446744073709551616).toNat = getL l := by omega
  rw [numB, e]
  have := putL_getL l
  rw [h] at this
  exact this
theorem numsB_get (b : List UInt8) : ∀ n, 4 * n ≤ b.length → numsB ((List.range n).map fun i => (getL ((b.drop (4 * i)).take 4) : Int)) = b.take (4 * n)
  | 0, _ => by simp [numsB]
  | n + 1, h => by
    have ih := numsB_get b n (by omega)
    rw [List.range_succ, List.map_append]
    simp only [numsB, List.flatMap_append, List.map_cons, List.map_nil, List.flatMap_cons, List.flatMap_nil, List.append_nil] at *
    rw [ih, numB_get (by simp; omega), show 4 * (n + 1) = 4 * n + 4 by omega, List.take_add]
theorem rowB_rowF {k : BKind} {b : List UInt8} (h : k.size ≤ b.length) : rowB (rowF k b) = b.take k.size := by
  unfold BKind.size at h
  have hn := numsB_get (b.drop k.key) k.nums (by rw [List.length_drop]; omega)
  simp only [rowB, rowF]
  have e : ((List.range k.nums).map fun i => (getL ((b.drop (k.key + 4 * i)).take 4) : Int)) = (List.range k.nums).map fun i => (getL (((b.drop k.key).drop (4 * i)).take 4) : Int) := by
    apply List.map_congr_left; intro i _; rw [List.drop_drop]
  rw [e, hn, BKind.size, List.take_add]
theorem rowsB_rowsF {k : BKind} {b : List UInt8} : ∀ n, n * k.size ≤ b.length → rowsB (rowsF k b n) = b.take (n * k.size)
  | 0, _ => by simp [rowsB, rowsF]
  | n + 1, h => by
    rw [Nat.add_mul, Nat.one_mul] at h
    have ih := rowsB_rowsF (k := k) (b := b) n (by omega)
    rw [rowsF_succ]
    simp only [rowsB, List.flatMap_append, List.flatMap_cons, List.flatMap_nil, List.append_nil] at *
    rw [ih, rowB_rowF (by rw [List.length_drop]; omega), Nat.add_mul, Nat.one_mul, List.take_add]
theorem rowsF_fit {k : BKind} {b : List UInt8} {n : Nat} (h : n * k.size ≤ b.length) : ∀ r ∈ rowsF k b n, fitR k r := by
  intro r hr
  obtain ⟨i, hi, rfl⟩ := List.mem_map.1 hr
  rw [List.mem_range] at hi
  refine rowF_fit ?_
  have : (i + 1) * k.size ≤ n * k.size := Nat.mul_le_mul_right _ hi
  rw [Nat.add_mul, Nat.one_mul] at this
  rw [List.length_drop]; omega
theorem rowsF_ok (k : BKind) (b : List UInt8) (n : Nat) : (rowsF k b n).all okR = true := by
  rw [List.all_eq_true]
  intro r hr
  obtain ⟨i, _, rfl⟩ := List.mem_map.1 hr
  exact okR_rowF _ _
/-- What a book that is read is made of. -/
theorem rowsE_ok {k : BKind} {b : List UInt8} (h : rowsE k b = 0) : b.length = 20 + cntF b * k.size ∧ b.take 8 = k.magic ∧ cntF b ≤ 65536 ∧ getL (b.drop (12 + cntF b * k.size)) = (sumF (b.take (12 + cntF b * k.size)) 0).toNat := by
  unfold rowsE at h
  unfold cntF
  by_cases h1 : b.length < 12
  · rw [if_pos h1] at h; simp at h
  rw [if_neg h1] at h
  by_cases h2 : b.take 8 ≠ k.magic ∨ 65536 < getL ((b.drop 8).take 4)
  · rw [if_pos h2] at h; simp at h
  rw [if_neg h2] at h
  by_cases h3 : b.length < 20 + getL ((b.drop 8).take 4) * k.size
  · rw [if_pos h3] at h; simp at h
  rw [if_neg h3] at h
  by_cases h4 : 20 + getL ((b.drop 8).take 4) * k.size < b.length
  · rw [if_pos h4] at h; simp at h
  rw [if_neg h4] at h
  by_cases h5 : getL (b.drop (12 + getL ((b.drop 8).take 4) * k.size)) ≠ (sumF (b.take (12 + getL ((b.drop 8).take 4) * k.size)) 0).toNat
  · rw [if_pos h5] at h; simp at h
  have h2' := not_or.1 h2
  exact ⟨by omega, by simpa using h2'.1, by omega, by simpa using h5⟩
theorem read_ok {k : BKind} {b : List UInt8} (h : (readF k b).2 = 0) : rowsE k b = 0 ∧ risesB k (rowsF k (b.drop 12) (cntF b)) = true ∧ readF k b = (rowsF k (b.drop 12) (cntF b), 0) := by
  unfold readF at *
  by_cases h1 : rowsE k b ≠ 0
  · rw [if_pos h1] at h; simp only at h; exact absurd h h1
  rw [if_neg h1] at h ⊢
  by_cases h2 : risesB k (rowsF k (b.drop 12) (cntF b)) = false
  · rw [if_pos h2] at h; simp at h
  rw [if_neg h2] at h ⊢
  exact ⟨by simpa using h1, by simpa using h2, rfl⟩
theorem read_fit {k : BKind} {b : List UInt8} : ∀ r ∈ (readF k b).1, fitR k r := by
  unfold readF
  by_cases h1 : rowsE k b ≠ 0
  · rw [if_pos h1]; simp
  rw [if_neg h1]
  have h1' : rowsE k b = 0 := by simpa using h1
  obtain ⟨e1, _⟩ := rowsE_ok h1'
  split
  · simp
  · exact rowsF_fit (by rw [List.length_drop]; omega)
theorem read_max {k : BKind} {b : List UInt8} : (readF k b).1.length ≤ 65536 := by
  unfold readF
  by_cases h1 : rowsE k b ≠ 0
  · rw [if_pos h1]; simp
  rw [if_neg h1]
  have h1' : rowsE k b = 0 := by simpa using h1
  obtain ⟨_, _, e3, _⟩ := rowsE_ok h1'
  split
  · simp
  · simp only [rowsF_length]; exact e3
theorem write_read {k : BKind} {b : List UInt8} (h : (readF k b).2 = 0) : writeF k (readF k b).1 = (b, 0) := by
  obtain ⟨he, hr, e⟩ := read_ok h
  obtain ⟨e1, e2, e3, e4⟩ := rowsE_ok he
  rw [e]
  simp only
  unfold writeF
  rw [rowsF_length, if_neg (by omega), rowsF_ok, hr, if_neg (by simp), if_neg (by simp)]
  have hn : cntF b * k.size ≤ (b.drop 12).length := by rw [List.length_drop]; omega
  have hb : bodyF k (rowsF k (b.drop 12) (cntF b)) = b.take (12 + cntF b * k.size) := by
    rw [bodyF, headF, rowsB_rowsF _ hn, rowsF_length, List.take_add, show (12 : Nat) = 8 + 4 by rfl, List.take_add, e2]
    congr 2
    have h4 : ((b.drop 8).take 4).length = 4 := by simp; omega
    have := putL_getL ((b.drop 8).take 4)
    rw [h4] at this
    exact this
  rw [closedF, hb, ← e4]
  congr 1
  have h8 : (b.drop (12 + cntF b * k.size)).length = 8 := by rw [List.length_drop]; omega
  have := putL_getL (b.drop (12 + cntF b * k.size))
  rw [h8] at this
  rw [this, List.take_append_drop]
theorem read_excl {k k' : BKind} {b : List UInt8} (h : (readF k b).2 = 0) (h' : (readF k' b).2 = 0) : k.magic = k'.magic := by
  rw [← (rowsE_ok (read_ok h).1).2.1, ← (rowsE_ok (read_ok h').1).2.1]
end Go.Hd
