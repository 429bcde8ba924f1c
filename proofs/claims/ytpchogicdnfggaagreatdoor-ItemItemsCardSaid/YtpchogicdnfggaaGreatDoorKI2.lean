/- Joined: what one statement of this layer stands on, part 2 of 26; nothing is assumed. -/
import Derived.Test.YtpchogicdnfggaaGreatDoorProg
import Derived.Test.YtpchogicdnfggaaGreatDoorRows
import Derived.Deep.DeepCutAuto
import Derived.Ground.Names2Prog
import Derived.Ground.SlgnProg
import Derived.Shelf.Bytes.Small
import Derived.Shelf.LaysM
import Derived.Shelf.Slices.Cells
import Derived.Shelf.Slices.ReverseS
import Derived.Shelf.SlicesE.Reverse
import Derived.Shelf.Strings.Count
import Derived.Shelf.Strings.Cut
import Derived.Shelf.Strings.RuneCount
import Derived.Shelf.Strings.Search1
import Derived.Shelf.Strings.Search2
import Derived.Shelf.Strings.Search3
import Derived.Shelf.Strings.Shaped
import Derived.Shelf.Strings.Split
import Derived.Shelf.Strings.SplitShaped
import Derived.Shelf.Unicode.Decode
import Derived.Shelf.Unicode.DecodeAny
import Derived.Shelf.Unicode.DecodeSlow
import Derived.Test.YtpchogicdnfggaaGreatDoorKI1
set_option maxRecDepth 20000
namespace Go.Hd
open Go Go.RowKit

theorem flatten_at {α : Type} {s : Nat} : ∀ {xs : List (List α)}, (∀ x ∈ xs, x.length = s) → ∀ {i j : Nat} {c : List α} {u : α}, xs[i]? = some c → c[j]? = some u → xs.flatten[i * s + j]? = some u
  | [], _, i, j, c, u, h, _ => by simp at h
  | x :: xs, hs, i, j, c, u, h1, h2 => by
    have hx := hs x (by simp)
    rw [List.flatten_cons]
    cases i with
    | zero =>
      simp only [List.getElem?_cons_zero, Option.some.injEq] at h1
      subst h1
      have hj : j < x.length := by
        rcases Nat.lt_or_ge j x.length with h | h
        · exact h
        · rw [List.getElem?_eq_none h] at h2; cases h2
      rw [Nat.zero_mul, Nat.zero_add, List.getElem?_append_left hj]; exact h2
    | succ i =>
      rw [Nat.add_mul, Nat.one_mul, List.getElem?_append_right (by omega), hx, show i * s + s + j - s = i * s + j by omega]
      exact flatten_at (fun y hy => hs y (by simp [hy])) (by simpa using h1) h2
theorem flatten_len {α : Type} {s : Nat} : ∀ {xs : List (List α)}, (∀ x ∈ xs, x.length = s) → xs.flatten.length = xs.length * s
  | [], _ => by simp
  | x :: xs, hs => by
    rw [List.flatten_cons, List.length_append, hs x (by simp), flatten_len (fun y hy => hs y (by simp [hy])), List.length_cons, Nat.add_mul]; omega
/-- The cells of element i. -/
theorem Row.elem {w : World} {a : Option Addr} {s : Nat} {xs : List (List Value)} (h : Row w a xs.flatten) (hs : ∀ x ∈ xs, x.length = s) {i : Nat} {c : List Value} (hc : xs[i]? = some c) : ∀ j v, c[j]? = some v → w.cell? (((hd a).add (i * s)).add j) = some v := by
  intro j v hv
  rw [add_add]
  exact h.2 _ _ (flatten_at hs hc hv)
theorem Row.elemSome {w : World} {a : Option Addr} {s : Nat} {xs : List (List Value)} (h : Row w a xs.flatten) (hs : ∀ x ∈ xs, x.length = s) (h0 : 0 < s) {i : Nat} (hi : i < xs.length) : a.isSome = true := by
  refine h.1 ?_
  rw [flatten_len hs]
  exact Nat.mul_pos (by omega) h0
/-- One field of element i. -/
theorem Row.field {w : World} {a : Option Addr} {s : Nat} {xs : List (List Value)} (h : Row w a xs.flatten) (hs : ∀ x ∈ xs, x.length = s) {i j : Nat} {c : List Value} {v : Value} (hc : xs[i]? = some c) (hv : c[j]? = some v) : w.cell? ((hd a).add (i * s + j)) = some v :=
  h.2 _ _ (flatten_at hs hc hv)
end Go.Hd
set_option maxRecDepth 20000
namespace Go.Hd
open Go Go.RowKit

/-- A value, as it is packed. -/
inductive PV where
  | mk (kind int : Int) (bytes text : List UInt8) (keys : List (List UInt8)) (list : List PV)
namespace PV
def kind : PV → Int | mk k _ _ _ _ _ => k
def int : PV → Int | mk _ n _ _ _ _ => n
def bytes : PV → List UInt8 | mk _ _ b _ _ _ => b
def text : PV → List UInt8 | mk _ _ _ t _ _ => t
def keys : PV → List (List UInt8) | mk _ _ _ _ k _ => k
def list : PV → List PV | mk _ _ _ _ _ l => l
end PV
def strV (t : List UInt8) : Value := .string (str t)
def in64 (n : Int) : Prop := -9223372036854775808 ≤ n ∧ n ≤ 9223372036854775807
/-- Six cells that hold a value. -/
inductive VAt (w : World) : List Value → PV → Prop
  | mk {k n : Int} {b t : List UInt8} {ks : List (List UInt8)} {l : List PV} {ab ak al : Option Addr} {cb ck cl : Nat} (css : List (List Value))
      (hk : in64 k) (hn : in64 n) (hb : Row w ab (b.map b8)) (hbc : b.length ≤ cb ∧ cb ≤ maxLen) (ht : t.length ≤ maxLen)
      (hks : Row w ak (ks.map strV)) (hkc : ks.length ≤ ck ∧ ck ≤ maxLen) (hkt : ∀ x ∈ ks, x.length ≤ maxLen) (hl : Row w al css.flatten) (hlc : l.length ≤ cl ∧ cl ≤ maxLen) (hcs : css.length = l.length) (h6 : ∀ c ∈ css, c.length = 6)
      (sub : ∀ (i : Nat) (c : List Value) (v : PV), css[i]? = some c → l[i]? = some v → VAt w c v) :
      VAt w [.int .i64 k, .int .i64 n, .slice ab b.length cb, strV t, .slice ak ks.length ck, .slice al l.length cl] (.mk k n b t ks l)
theorem VAt.len {w : World} {cs : List Value} {v : PV} (h : VAt w cs v) : cs.length = 6 := by
  cases h; rfl
theorem VAt.one {w : World} {cs : List Value} {v : PV} (h : VAt w cs v) : ∀ u ∈ cs, u.oneCell' = true := by
  cases h
  intro u hu
  simp only [List.mem_cons, List.not_mem_nil, or_false] at hu
  rcases hu with rfl | rfl | rfl | rfl | rfl | rfl <;> rfl
theorem VAt.keep {w w' : World} {cs : List Value} {v : PV} (h : VAt w cs v) (hb : Below w.heap.size w w') : VAt w' cs v := by
  induction h with
  | mk css hk hn hB hbc ht hks hkc hkt hl hlc hcs h6 _ ih => exact .mk css hk hn (hB.below hb) hbc ht (hks.below hb) hkc hkt (hl.below hb) hlc hcs h6 ih
/-- The zero value. -/
def pv0 : PV := .mk 0 0 [] [] [] []
theorem VAt.zero (w : World) : VAt w [.int .i64 0, .int .i64 0, .slice none 0 0, strV [], .slice none 0 0, .slice none 0 0] pv0 :=
  .mk (b := []) (t := []) (ks := []) (l := []) [] (by unfold in64; omega) (by unfold in64; omega) (Row.nil _ _) ⟨Nat.le_refl _, Nat.zero_le _⟩ (Nat.zero_le _) (Row.nil _ _) ⟨Nat.le_refl _, Nat.zero_le _⟩ (by simp) (Row.nil _ _) ⟨Nat.le_refl _, Nat.zero_le _⟩ rfl (by simp) (by simp)
/-! What can be. -/
/-- A text is not behind another one. -/
def leT (a b : List UInt8) : Bool := Op.bytesLess (str a).toList (str b).toList || (str a).toList == (str b).toList
def risesT : List (List UInt8) → Bool
  | a :: b :: l => !leT b a && risesT (b :: l)
  | _ => true
theorem risesT_snoc : ∀ (l : List (List UInt8)) (r s : List UInt8), risesT (l ++ [r, s]) = (risesT (l ++ [r]) && !leT s r)
  | [], r, s => by simp [risesT]
  | [x], r, s => by simp [risesT]
  | x :: y :: l, r, s => by
    have := risesT_snoc (y :: l) r s
    simp only [List.cons_append, risesT] at *
    rw [this, Bool.and_assoc]
theorem risesT_take (l : List (List UInt8)) (i : Nat) (h : i + 1 < l.length) : risesT (l.take (i + 2)) = (risesT (l.take (i + 1)) && !leT l[i + 1] l[i]) := by
  rw [List.take_succ_eq_append_getElem h, List.take_succ_eq_append_getElem (by omega : i < l.length), List.append_assoc]
  exact risesT_snoc _ _ _
theorem risesT_one (l : List (List UInt8)) : risesT (l.take 1) = true := by
  match l with
  | [] => rfl
  | x :: l => rfl
theorem risesT_of (l : List (List UInt8)) (n : Nat) (h : risesT l = true) : risesT (l.take n) = true := by
  induction l generalizing n with
  | nil => simp [risesT]
  | cons r l ih =>
    match n, l with
    | 0, _ => rfl
    | 1, _ => simp [risesT]
    | n + 2, [] => simp [risesT]
    | n + 2, s :: l =>
      simp only [risesT, Bool.and_eq_true] at h
      have := ih (n + 1) h.2
      simp only [List.take_succ_cons, risesT, h.1, Bool.true_and] at this ⊢
      exact this
def canF : Nat → PV → Bool
  | 0, _ => false
  | d + 1, v => decide (0 ≤ v.kind ∧ v.kind ≤ 7) && (v.kind != 7 || (v.keys.length == v.list.length && risesT v.keys)) && (decide (v.kind < 6) || v.list.all (canF d))

/-! Which bytes a value has. -/
def bigB (x : Nat) (n : Nat) : List UInt8 := (putL x n).reverse
def u64Of (x : Int) : Nat := (x % 18446744073709551616).toNat
def intB (x : Int) : List UInt8 :=
  if -32 ≤ x ∧ x ≤ 127 then [UInt8.ofNat (x % 256).toNat] else
  if 0 ≤ x then
    if x ≤ 255 then 0xcc :: bigB (u64Of x) 1 else if x ≤ 65535 then 0xcd :: bigB (u64Of x) 2 else if x ≤ 4294967295 then 0xce :: bigB (u64Of x) 4 else 0xcf :: bigB (u64Of x) 8
  else
    if -128 ≤ x then 0xd0 :: bigB (u64Of x) 1 else if -32768 ≤ x then 0xd1 :: bigB (u64Of x) 2 else if -2147483648 ≤ x then 0xd2 :: bigB (u64Of x) 4 else 0xd3 :: bigB (u64Of x) 8
end Go.Hd
set_option maxRecDepth 20000
namespace Go.Proofs.YtpchogicdnfggaaGreatDoor
open Go.RowKit Go.Hd

theorem eB : Elem Tryz.prog 22 5 (.int .u8 0) 1 1 := ⟨by kernel_rfl, by kernel_rfl, rfl, by decide⟩

/-- v is the call's own, holds l; what was there is as it was. -/
def Fresh (w w' : World) (v : Value) (l : List UInt8) : Prop := w'.ownsRow w.heap.size 5 1 v l.length (l.map b8) ∧ Below w.heap.size w w'

theorem same_any {a b : Option Addr} {n1 n2 c d : Nat} {l m : List UInt8} {w : World} (h1 : n1 = l.length) (h2 : n2 = m.length) (hl : Row w a (l.map b8)) (hm : Row w b (m.map b8)) (hc : l.length ≤ maxLen) :
    Calls Tryz.prog 9 #[.slice a n1 c, .slice b n2 d] w fun e w' => e = .returned (.bool (l == m)) ∧ ∃ n, w' = w.drewN n := by
  subst h1 h2
  unfold maxLen at hc
  by_cases hlen : l.length = m.length
  · have hne : ((l.length : Int) != (m.length : Int)) = false := by simp [hlen]
    have HL := Lib.hid hlen
    have hle : l.length ≤ m.length := by omega
    clear hlen
    go_enter Tryz.func9, Tryz.ntmps9
    go_wp2
    go_loopw [5] (fun i w' => ∃ k : Nat, k ≤ l.length ∧ i = .int .i64 k ∧ l.take k = m.take k ∧ ∃ n, w' = w.drewN n) (fun i _ => l.length - (intOf i).toNat)
    case atStart => exact ⟨0, Nat.zero_le _, rfl, rfl, 0, rfl⟩
    case round =>
      obtain ⟨k, hk, rfl, htake, n, rfl⟩ := hrel
      have HT := Lib.hid htake
      clear htake
      by_cases hlt : k < l.length
      · have hlt2 : k < m.length := by omega
        have c1 := hl.byte hlt
        have c2 := hm.byte hlt2
        have s1 := hl.byteSome hlt
        have s2 := hm.byteSome hlt2
        go_wp2
        go_quiet (fail)
        go_wp2
        · go_ret
          refine ⟨ret_bool ?_, n + nq, by first | rfl | rw [drewN_two]⟩
          rename_i hx
          have h1 : l[k].toNat ≠ m[k].toNat := by have h := hx; simp at h; omega
          refine (beq_eq_false_iff_ne.2 ?_).symm
          intro e
          exact h1 (by simp [e])
        · rename_i hx
          have h1 : l[k] = m[k] := UInt8.toNat_inj.1 (by have h := hx; simp at h; omega)
          have HK : Hid (l.take (k + 1) = m.take (k + 1)) := by
            show _ = _
            rw [List.take_succ_eq_append_getElem hlt, List.take_succ_eq_append_getElem hlt2, HT.out, h1]
          clear h1 hx
          go_roundw
          case rel => exact ⟨k + 1, by omega, by go_num, HK.out, n + nq, by first | rfl | rw [drewN_two]⟩
          case measure => simp [intOf]; omega
      · go_wp2
        go_ret
        refine ⟨ret_bool ?_, n, rfl⟩
        have := HL.out
        have h2 := HT.out
        rw [List.take_of_length_le (by omega), List.take_of_length_le (by omega)] at h2
        simp [h2]
  · have hne : ((l.length : Int) != (m.length : Int)) = true := by simp; omega
    have hle : (l == m) = false := by simp; intro h; exact hlen (by rw [h])
    rw [hle]
    have HL := Lib.hid hlen
    clear hlen hle
    go_enter Tryz.func9, Tryz.ntmps9
    go_wp2
    go_ret
    exact ⟨rfl, 0, rfl⟩

set_option maxRecDepth 20000 in
theorem put_any (x : Nat) (n : Nat) (w : World) (_hx : x < 18446744073709551616) (h1 : 1 ≤ n) (h8 : n ≤ 8) :
    Calls Tryz.prog 65 #[.int .u64 x, .int .i64 n] w fun e w' => ∃ v, e = .returned v ∧ Fresh w w' v (putL x n) := by
  obtain ⟨i0, hi, hz0, hz1, hz2⟩ := info_parts eB.hi
  have hmk := run_make (P := Tryz.prog) w 22 5 i0 (.int .u8 0) eB.ht hi hz0 .i64 .i64 n n (by omega) (Int.le_refl _) (by rw [hz2]; omega) (by omega)
  rw [hz1] at hmk
  simp only [Int.toNat_natCast, Nat.mul_one] at hmk
  have hm0 := toList_madeCells_one (.int .u8 0) n
  have hB : Blk (w.alloc (.cells (madeCells #[.int .u8 0] n) 5)) w.heap.size 5 (List.replicate n (.int .u8 0)) := by rw [← hm0]; exact Blk.new _ _ _
  have hb0 : Below w.heap.size w (w.alloc (.cells (madeCells #[.int .u8 0] n) 5)) := (Below.refl _ _).alloc (Nat.le_refl _) _
  clear hm0
  have HB := Lib.hid hB
  clear hB
  go_enter Tryz.func65, Tryz.ntmps65
  go_wp2
  go_loopw [17] (fun i w' => ∃ k : Nat, k ≤ n ∧ i = .int .i64 k ∧ Blk w' w.heap.size 5 ((putL x k).map b8 ++ List.replicate (n - k) (.int .u8 0)) ∧ Below w.heap.size w w') (fun i _ => n - (intOf i).toNat)
  case atStart => exact ⟨0, Nat.zero_le _, rfl, by simpa [putL] using HB.out, hb0⟩
  case round =>
    obtain ⟨k, hk, rfl, hB, hb⟩ := hrel
    by_cases hlt : k < n
    · have hc : wr.cell? ⟨w.heap.size, k, none⟩ = some (.int .u8 0) := hB.cell (by rw [List.getElem?_append_right (by simp)]; simp [List.getElem?_replicate]; omega)
      have hf := hB.free k
      have HS : Hid (Blk (wr.setCell ⟨w.heap.size, k, none⟩ (.int .u8 (((x : Int) / 2 ^ (8 * k)) % 256))) w.heap.size 5 ((putL x (k + 1)).map b8 ++ List.replicate (n - (k + 1)) (.int .u8 0))) := by
        have h := hB.set k (.int .u8 (((x : Int) / 2 ^ (8 * k)) % 256))
        rw [show n - k = (n - (k + 1)) + 1 by omega, set_next _ _ _ k _ (by simp)] at h
        rw [byte_shr] at h ⊢
        simp only [putL, List.map_append, List.map_cons, List.map_nil]
        exact h
      have hb1 := hb.setCell (p := ⟨w.heap.size, k, none⟩) (Nat.le_refl _) (.int .u8 (((x : Int) / 2 ^ (8 * k)) % 256))
      clear hB
      go_wp2
      first
        | exact ⟨⟨k + 1, by omega, by go_num, HS.out, hb1⟩, by simp [intOf] <;> omega⟩
        | (refine ⟨?_, by simp [intOf] <;> omega⟩; (repeat apply Exists.intro); exact ⟨⟨k + 1, by omega, by go_num, HS.out, hb1⟩, rfl⟩)
    · obtain rfl : k = n := by omega
      go_wp2
      go_ret
      have h := hB.owns (base := w.heap.size) (n := k) (c := k) (Nat.le_refl _) (Nat.le_refl _) (by simp) (by unfold maxLen; omega)
      refine ⟨_, rfl, ?_, hb⟩
      have e : ((putL x k).map b8).take k = (putL x k).map b8 := List.take_of_length_le (by simp)
      rw [putL_length]
      simp only [Nat.sub_self, List.replicate_zero, List.append_nil, e] at h
      exact h

theorem grown_set {w wr : World} {g : Nat} (h : w.grownBy wr (some g)) (i : Nat) (u : Value) : w.grownBy (wr.setCell ⟨g, i, none⟩ u) (some g) :=
  ⟨h.os, h.tape, h.output, by simpa [World.setCell] using h.size, fun k hk hne => by rw [Below.heap_setCell _ _ _ _ (fun e => hne (by simp only at e; rw [e]))]; exact h.block k hk hne⟩

theorem rev_any (g n c : Nat) (l : List UInt8) (rest : List Value) (w : World) (hB : Blk w g 5 (l.map b8 ++ rest)) (h1 : 1 ≤ n) (hn : n = l.length) (hm : l.length ≤ maxLen) :
    Calls Tryz.prog 66 #[.slice (some ⟨g, 0, none⟩) n c] w fun e w' => e = .returned (.tuple #[]) ∧ Blk w' g 5 (l.reverse.map b8 ++ rest) ∧ w.grownBy w' (some g) := by
  unfold maxLen at hm
  have HB := Lib.hid hB
  have HN := Lib.hid hn
  have hnm : n ≤ 2 ^ 63 - 1 := by omega
  clear hB hn hm
  go_enter Tryz.func66, Tryz.ntmps66
  go_wp2
  go_loopw [2, 3] (fun i j w' => ∃ (i0 j0 : Nat) (m : List UInt8), i0 + j0 + 1 = n ∧ i = .int .i64 i0 ∧ j = .int .i64 j0 ∧ RevAt l m n i0 j0 ∧ Blk w' g 5 (m.map b8 ++ rest) ∧ w.grownBy w' (some g)) (fun i _ _ => n - (intOf i).toNat)
  case atStart => exact ⟨0, n - 1, l, by omega, rfl, by congr 1; omega, RevAt.start l n, HB.out, World.grownBy.refl _ _⟩
  case round =>
    obtain ⟨i, j, m, hij, rfl, rfl, hr, hB, hg⟩ := hrel
    have HIJ := Lib.hid hij
    have hj : (j : Int) ≤ n := by omega
    have hjn : j < n := by omega
    have hin : i < n := by omega
    have hin2 : (i : Int) < n := by omega
    have hjn2 : (j : Int) < n := by omega
    have hml := hr.1
    have hn := HN.out
    by_cases hlt : i < j
    · have hmi : i < m.length := by omega
      have hmj : j < m.length := by omega
      have c1 := hB.byteL hmi
      have c2 := hB.byteL hmj
      have f1 := hB.free i
      have f2 := hB.free j
      have HS : Hid (Blk (((wr.setCell ⟨g, i, none⟩ (b8 m[j])).setCell ⟨g, j, none⟩ (b8 m[i])).drew) g 5 (((m.set i m[j]).set j m[i]).map b8 ++ rest)) :=
        ((hB.setL hmi m[j]).setL (by simpa using hmj) m[i]).drew
      have HG : Hid (w.grownBy (((wr.setCell ⟨g, i, none⟩ (b8 m[j])).setCell ⟨g, j, none⟩ (b8 m[i])).drew) (some g)) := grownBy_drew (grown_set (grown_set hg _ _) _ _)
      have HR : RevAt l ((m.set i m[j]).set j m[i]) n (i + 1) (j - 1) := hr.step (by omega) hij hlt
      have hlt2 : (i : Int) < j := by omega
      clear hij hml hB hg hr hn
      go_wp2
      go_region
      go_wp2
      have := HIJ.out
      first
        | exact ⟨⟨i + 1, j - 1, _, by omega, by go_num, by congr 1; omega, HR, HS.out, HG.out⟩, by simp [intOf] <;> omega⟩
        | (refine ⟨?_, by simp [intOf] <;> omega⟩; (repeat apply Exists.intro); exact ⟨⟨i + 1, j - 1, _, by omega, by go_num, by congr 1; omega, HR, HS.out, HG.out⟩, rfl⟩)
    · clear hn
      go_wp2
      go_end0
      refine ⟨rfl, ?_, hg⟩
      have hn := HN.out
      subst hn
      rw [← hr.whole hij hlt]
      exact hB
theorem Fresh.open {w w' : World} {v : Value} {l : List UInt8} (h : Fresh w w' v l) : ∃ a c, v = .slice a l.length c ∧ Row w' a (l.map b8) ∧ Below w.heap.size w w' ∧ l.length ≤ maxLen ∧ l.length ≤ c := by
  obtain ⟨a, c, hv, h1, h2, h3⟩ := owns_row h.1
  exact ⟨a, c, hv, h3, h.2, by omega, h1⟩
end Go.Proofs.YtpchogicdnfggaaGreatDoor
set_option maxRecDepth 20000
namespace Go.Proofs.YtpchogicdnfggaaGreatDoor
open Go.RowKit Go.Hd

section
variable (ρ : Operand → Value) (dst : Option Tmp) (ty : TypeId) (pos : String) (after : Array Edge) (guard : Option (Nat × Bool))
theorem h_ldV (x : Operand) : execOp ρ { dst, op := .load 50 x, type := ty, pos, after, guard } = (do pure (.value (← ldOp 50 (ρ x)))) := rfl
theorem h_stV (x y : Operand) : execOp ρ { dst, op := .store 50 x y, type := ty, pos, after, guard } = (do stoOp 50 (ρ x) (ρ y); pure .skip) := rfl
theorem h_alV : execOp ρ { dst, op := .alloc 50, type := ty, pos, after, guard } = (do pure (.value (← alOp 50))) := rfl
end
def zV : Array Value := List.toArray (α := Value) [.int .i64 0, .int .i64 0, .slice none 0 0, strV [], .slice none 0 0, .slice none 0 0]
theorem zV_size : zV.size = 6 := by rfl
theorem infoV : (Tryz.prog.info? 50).map (fun i => (i.zero, i.size)) = some (some (.agg zV), 6) := by kernel_rfl
theorem sizeV : (Tryz.prog.info? 50).map (·.size) = some 6 := (zero_of_info infoV).2
theorem zeroV : (Tryz.prog.info? 50).bind (·.zero) = some (.agg zV) := by kernel_rfl
theorem r_ldV {w : World} {b : Nat} {cs : Array Value} {T : TypeId} (hb : w.heap.size = b) (hs : cs.size = 6) : (ldOp 50 (.pointer (some ⟨b, 0, none⟩))).run Tryz.prog (w.alloc (.cells cs T)) = .ok (.agg cs) (w.alloc (.cells cs T)) :=
  ldOp_new hb Tryz.underlying50 rfl (by rw [hs]; exact sizeV)
theorem r_stV {w : World} {b : Nat} {old cs : Array Value} {T : TypeId} (hb : w.heap.size = b) (ho : old.size = 6) (hs : cs.size = 6) (h1 : OneC cs) : (stoOp 50 (.pointer (some ⟨b, 0, none⟩)) (.agg cs)).run Tryz.prog (w.alloc (.cells old T)) = .ok () (w.alloc (.cells cs T)) :=
  stOp_new hb (by rw [hs]; exact sizeV) (by rw [ho, hs]) h1
theorem r_alV {w : World} : (alOp 50).run Tryz.prog w = .ok (.pointer (some ⟨w.heap.size, 0, none⟩)) (w.alloc (.cells zV 50)) := alOp_run zeroV
attribute [local go_sem ↓] h_ldV h_stV h_alV
attribute [local go_sem] r_ldV r_stV r_alV

theorem canF_bad {d : Nat} {k n : Int} {b t : List UInt8} {ks : List (List UInt8)} {l : List PV} (h : ¬ (0 ≤ k ∧ k ≤ 7)) : canF d (.mk k n b t ks l) = false := by
  cases d with
  | zero => rfl
  | succ d => simp [canF, PV.kind, h]
theorem canF_map {d : Nat} {n : Int} {b t : List UInt8} {ks : List (List UInt8)} {l : List PV} (h : ¬ (ks.length = l.length ∧ risesT ks = true)) : canF d (.mk 7 n b t ks l) = false := by
  cases d with
  | zero => rfl
  | succ d =>
    simp only [canF, PV.kind, PV.keys, PV.list]
    have : (ks.length == l.length && risesT ks) = false := by
      cases h2 : (ks.length == l.length && risesT ks) with
      | false => rfl
      | true => simp at h2; exact absurd h2 h
    rw [this]; rfl
theorem canF_many {d : Nat} {k n : Int} {b t : List UInt8} {ks : List (List UInt8)} {l : List PV} (h6 : 6 ≤ k) (h7 : k ≤ 7) (h : k = 7 → ks.length = l.length ∧ risesT ks = true) : canF (d + 1) (.mk k n b t ks l) = l.all (canF d) := by
  show (decide (0 ≤ k ∧ k ≤ 7) && (k != 7 || (ks.length == l.length && risesT ks)) && (decide (k < 6) || l.all (canF d))) = _
  have e1 : decide (0 ≤ k ∧ k ≤ 7) = true := decide_eq_true ⟨by omega, h7⟩
  have e2 : decide (k < 6) = false := decide_eq_false (by omega)
  have e3 : (k != 7 || (ks.length == l.length && risesT ks)) = true := by
    by_cases hk : k = 7
    · obtain ⟨h1, h2⟩ := h hk; simp [h1, h2]
    · simp [hk]
  rw [e1, e2, e3]; simp
theorem canF_flat {d : Nat} {k n : Int} {b t : List UInt8} {ks : List (List UInt8)} {l : List PV} (h0 : 0 ≤ k) (h6 : k < 6) : canF (d + 1) (.mk k n b t ks l) = true := by
  show (decide (0 ≤ k ∧ k ≤ 7) && (k != 7 || (ks.length == l.length && risesT ks)) && (decide (k < 6) || l.all (canF d))) = _
  have e1 : decide (0 ≤ k ∧ k ≤ 7) = true := decide_eq_true ⟨h0, by omega⟩
  have e2 : decide (k < 6) = true := decide_eq_true h6
  have e3 : (k != 7) = true := by simp; omega
  rw [e1, e2, e3]; rfl
theorem risesT_not {ks : List (List UInt8)} {j : Nat} (h : risesT (ks.take j) = false) : risesT ks = false := by
  rcases Bool.eq_false_or_eq_true (risesT ks) with h2 | h2
  · rw [risesT_of ks j h2] at h; cases h
  · exact h2

set_option maxHeartbeats 2000000 in
theorem can_any {w : World} {cs : List Value} {v : PV} (h : VAt w cs v) : ∀ (d : Nat) (w' : World), d ≤ 1000 → Below w.heap.size w w' →
    Calls Tryz.prog 52 #[.agg cs.toArray, .int .i64 (d : Int)] w' fun e w'' => e = .returned (.bool (canF d v)) ∧ Below w'.heap.size w' w'' := by
  induction h with
  | @mk k n b t ks l ab ak al cb ck cl css hk hn hb hbc ht hks hkc hkt hl hlc hcs h6 sub ih =>
  intro d w' hdd hbw
  have hb0 : Below w'.heap.size w' (w'.alloc (.cells (List.toArray (α := Value) [.int .i64 k, .int .i64 n, .slice ab b.length cb, strV t, .slice ak ks.length ck, .slice al l.length cl]) 50)) := (Below.refl _ _).alloc (Nat.le_refl _) _
  have B0 : Blk (w'.alloc (.cells (List.toArray (α := Value) [.int .i64 k, .int .i64 n, .slice ab b.length cb, strV t, .slice ak ks.length ck, .slice al l.length cl]) 50)) w'.heap.size 50 [.int .i64 k, .int .i64 n, .slice ab b.length cb, strV t, .slice ak ks.length ck, .slice al l.length cl] := Blk.new _ _ _
  generalize hS : strV t = S at *
  have hSo : S.oneCell' = true := by rw [← hS]; rfl
  clear hS
  go_enter Tryz.func52, Tryz.ntmps52
  go_upto_region 1 with (fail)
  generalize w'.alloc (.cells (List.toArray (α := Value) [.int .i64 k, .int .i64 n, .slice ab b.length cb, S, .slice ak ks.length ck, .slice al l.length cl]) 50) = W at *
  have c0 : W.cell? ⟨w'.heap.size, 0, none⟩ = some (.int .i64 k) := B0.cell rfl
  have c4 : W.cell? ⟨w'.heap.size, 4, none⟩ = some (.slice ak ks.length ck) := B0.cell rfl
  have c5 : W.cell? ⟨w'.heap.size, 5, none⟩ = some (.slice al l.length cl) := B0.cell rfl
  by_cases hr : 0 ≤ k ∧ k ≤ 7
  · obtain ⟨k0, k7⟩ := hr
    have g0 : ¬ k < 0 := by omega
    have g7 : ¬ 7 < k := by omega
    cases d with
    | zero =>
      go_wp2
      go_ret
      exact ⟨rfl, hb0⟩
    | succ d =>
      have gd : (((d + 1 : Nat) : Int) == 0) = false := beq_eq_false_iff_ne.2 (by omega)
      have HMAP := Lib.hid (fun h => canF_map (d := d + 1) (n := n) (b := b) (t := t) (ks := ks) (l := l) h)
      go_upto_if 23 with (fail)
      go_cut [4] (fun _ wx => (Blk wx w'.heap.size 50 [.int .i64 k, .int .i64 n, .slice ab b.length cb, S, .slice ak ks.length ck, .slice al l.length cl] ∧ Below w'.heap.size w' wx) ∧ (k = 7 → ks.length = l.length ∧ risesT ks = true))
      case first =>
        by_cases h7 : k = 7
        · subst h7
          by_cases hkl : ks.length = l.length
          · have t1 : ((ks.length : Int) != (l.length : Int)) = false := by rw [hkl]; simp
            have HKL := Lib.hid hkl
            clear hkl
            go_wp2
            go_loopw [34] (fun i wr => ∃ j : Nat, j ≤ ks.length ∧ i = .int .i64 j ∧ risesT (ks.take j) = true ∧ Blk wr w'.heap.size 50 [.int .i64 7, .int .i64 n, .slice ab b.length cb, S, .slice ak ks.length ck, .slice al l.length cl] ∧ Below w'.heap.size w' wr) (fun i _ => ks.length - (intOf i).toNat)
            case atStart => exact ⟨0, Nat.zero_le _, rfl, by rw [List.take_zero]; rfl, B0, hb0⟩
            case round =>
              obtain ⟨j, hj, rfl, hri, BK, hbk⟩ := hrel
              have c0 : wr.cell? ⟨w'.heap.size, 0, none⟩ = some (.int .i64 7) := BK.cell rfl
              have c4 : wr.cell? ⟨w'.heap.size, 4, none⟩ = some (.slice ak ks.length ck) := BK.cell rfl
              by_cases hlt : j < ks.length
              · have hrowk := hks.below (hbw.trans (hbk.mono hbw.size))
                have q1 : wr.cell? ((hd ak).add j) = some (strV ks[j]) := hrowk.cell (by simp [hlt])
                have s1 : ak.isSome = true := hrowk.isSome (i := j) (by simpa using hlt)
                have j0 : (0 : Int) ≤ (j : Int) := by omega
                have j1 : (j : Int) < (ks.length : Int) := by omega
                unfold strV at q1
                by_cases hj0 : j = 0
                · subst hj0
                  have HL := Lib.hid (risesT_one ks)
                  have ib : (1 : Int) ≤ (ks.length : Int) := by omega
                  have q1' : wr.cell? (hd ak) = some (.string (str ks[0])) := by have h := q1; simp only [Addr.add] at h; simpa using h
                  have n0 : (0 : Int) < (ks.length : Int) := by omega
                  generalize ks[0] = x at *
                  clear hri
                  go_wp2
                  first
                    | exact ⟨⟨0 + 1, by omega, (by first | rfl | go_num | (congr 1; omega)), HL.out, BK, hbk⟩, by simp [intOf] <;> omega⟩
                    | (refine ⟨?_, by simp [intOf] <;> omega⟩; (repeat apply Exists.intro); exact ⟨⟨0 + 1, by omega, (by first | rfl | go_num | (congr 1; omega)), HL.out, BK, hbk⟩, rfl⟩)
                · obtain ⟨i, rfl⟩ : ∃ i, j = i + 1 := ⟨j - 1, by omega⟩
                  have hil : i < ks.length := by omega
                  have q0 : wr.cell? ((hd ak).add i) = some (strV ks[i]) := hrowk.cell (by simp [hil])
                  unfold strV at q0
                  have HT := Lib.hid (risesT_take ks i hlt)
                  have HN := Lib.hid (fun h => risesT_not (ks := ks) (j := i + 2) h)
                  have HRI := Lib.hid hri
                  have ew : IntKind.i64.wrap (i : Int) = (i : Int) := IntWalk.i64_in _ (by unfold maxLen at hkc; omega)
                  have ew1 : IntKind.i64.wrap ((i : Int) + 1 - 1) = (i : Int) := by rw [IntWalk.i64_in _ (by unfold maxLen at hkc; omega)]; omega
                  have i0 : (0 : Int) ≤ (i : Int) := by omega
                  have i1 : (i : Int) < (ks.length : Int) := by omega
                  have i4 : ((i : Int) + 1).toNat = i + 1 := by omega
                  have i5 : (0 : Int) < (i : Int) + 1 := by omega
                  have i2 : (0 : Int) ≤ (i : Int) + 1 := by omega
                  have i3 : (i : Int) + 1 < (ks.length : Int) := by omega
                  have q1' : wr.cell? ⟨(hd ak).block, (hd ak).off + (i + 1), none⟩ = some (.string (str ks[i + 1])) := by have h := q1; simp only [Addr.add] at h; simpa using h
                  have ib : (i : Int) + 1 + 1 ≤ 9223372036854775807 := by unfold maxLen at hkc; omega
                  have ew2 : IntKind.i64.wrap ((i : Int) + 1 + 1) = (i : Int) + 1 + 1 := IntWalk.i64_in _ (by omega)
                  generalize ks[i] = x at *
                  generalize ks[i + 1] = y at *
                  clear hri
                  have HLE : Hid (leT y x = (Op.bytesLess (str y).toList (str x).toList || (str y).toList == (str x).toList)) := rfl
                  rcases Bool.eq_false_or_eq_true (Op.bytesLess (str y).toList (str x).toList) with hA | hA
                  · have HR := Lib.hid (HMAP.out (fun h => by
                      have h1 := HN.out (by rw [HT.out, HRI.out, HLE.out, hA]; rfl)
                      rw [h1] at h
                      exact absurd h.2 (by decide)))
                    go_wp2
                    go_ret
                    exact ⟨by rw [HR.out]; rfl, hbk⟩
                  · rcases Bool.eq_false_or_eq_true ((str y).toList == (str x).toList) with hB | hB
                    · have HR := Lib.hid (HMAP.out (fun h => by
                        have h1 := HN.out (by rw [HT.out, HRI.out, HLE.out, hA, hB]; rfl)
                        rw [h1] at h
                        exact absurd h.2 (by decide)))
                      go_wp2
                      go_ret
                      exact ⟨by rw [HR.out]; rfl, hbk⟩
                    · have HL : Hid (risesT (ks.take (i + 1 + 1)) = true) := by
                        show _ = _
                        rw [HT.out, HRI.out, HLE.out, hA, hB]; rfl
                      go_wp2
                      first
                        | exact ⟨⟨i + 1 + 1, by omega, (by first | rfl | go_num | (congr 1; omega)), HL.out, BK, hbk⟩, by simp [intOf] <;> omega⟩
                        | (refine ⟨?_, by simp [intOf] <;> omega⟩; (repeat apply Exists.intro); exact ⟨⟨i + 1 + 1, by omega, (by first | rfl | go_num | (congr 1; omega)), HL.out, BK, hbk⟩, rfl⟩)
              · obtain rfl : j = ks.length := by omega
                rw [List.take_length] at hri
                go_wp2
                go_meet
                exact ⟨⟨BK, hbk⟩, fun _ => ⟨HKL.out, hri⟩⟩
          · have t1 : ((ks.length : Int) != (l.length : Int)) = true := by simpa using fun h => hkl (by exact_mod_cast h)
            have HR := Lib.hid (HMAP.out (fun h => hkl h.1))
            clear hkl
            go_wp2
            go_ret
            exact ⟨by rw [HR.out]; rfl, hb0⟩
        · have t1 : (k == 7) = false := beq_eq_false_iff_ne.2 h7
          go_wp2
          go_meet
          exact ⟨⟨B0, hb0⟩, fun h => absurd h h7⟩
      case rest =>
        clear B0 hb0 c0 c4 c5
        obtain ⟨⟨B0, hb0⟩, hmap⟩ := hcut
        have c0 : wc.cell? ⟨w'.heap.size, 0, none⟩ = some (.int .i64 k) := B0.cell rfl
        have c5 : wc.cell? ⟨w'.heap.size, 5, none⟩ = some (.slice al l.length cl) := B0.cell rfl
        by_cases hk6 : 6 ≤ k
        · have HM := Lib.hid (canF_many (d := d) (n := n) (b := b) (t := t) hk6 k7 hmap)
          clear hmap
          go_wp2
          go_loopw [58] (fun i wr => ∃ j : Nat, j ≤ l.length ∧ i = .int .i64 j ∧ (l.take j).all (canF d) = true ∧ Below w'.heap.size w' wr) (fun i _ => l.length - (intOf i).toNat)
          case atStart => exact ⟨0, Nat.zero_le _, rfl, by rw [List.take_zero]; rfl, hb0⟩
          case round =>
            obtain ⟨j, hj, rfl, hri, hb⟩ := hrel
            by_cases hlt : j < l.length
            · have hcj : css[j]? = some (css[j]'(by omega)) := by simp
              have hvj : l[j]? = some l[j] := by simp [hlt]
              have IH := ih j _ _ hcj hvj d
              have hrow := hl.below (hbw.trans (hb.mono hbw.size))
              have s1 := hrow.elemSome (s := 6) h6 (by decide) (i := j) (by omega)
              have q1 := ldOp_at (P := Tryz.prog) (ty := 50) (hrow.elem (s := 6) h6 hcj) Tryz.underlying50 rfl (by rw [h6 _ (List.getElem_mem _)]; exact sizeV)
              have x6 : (css[j]'(by omega)).toArray.size = 6 := by simpa using h6 _ (List.getElem_mem _)
              have xo : OneC (css[j]'(by omega)).toArray := all_oneCell_toArray (sub j _ _ hcj hvj).one
              have HA : Hid ((l.take (j + 1)).all (canF d) = ((l.take j).all (canF d) && canF d l[j])) := by
                show _ = _
                rw [List.take_succ_eq_append_getElem hlt, List.all_append]; simp
              have HN : Hid (canF d l[j] = false → l.all (canF d) = false) := by
                intro h
                rcases Bool.eq_false_or_eq_true (l.all (canF d)) with h2 | h2
                · rw [List.all_eq_true.1 h2 _ (List.getElem_mem hlt)] at h; cases h
                · exact h2
              have HRI := Lib.hid hri
              have zs := zV_size
              have hsz := hb.size
              have j0 : (0 : Int) ≤ (j : Int) := by omega
              have j1 : (j : Int) < (l.length : Int) := by omega
              have jb : (j : Int) + 1 ≤ 9223372036854775807 := by unfold maxLen at hlc; omega
              have ew2 : IntKind.i64.wrap ((j : Int) + 1) = (j : Int) + 1 := IntWalk.i64_in _ (by omega)
              have ew : IntKind.i64.wrap (d : Int) = (d : Int) := IntWalk.i64_in _ (by omega)
              have ew1 : IntKind.i64.wrap ((d : Int) + 1 - 1) = (d : Int) := by rw [IntWalk.i64_in _ (by omega)]; omega
              have hbC : Below w.heap.size w wr := hbw.trans (hb.mono hbw.size)
              generalize css[j]'(by omega) = c at *
              generalize l[j] = v at *
              clear hri hcj hvj hrow
              go_wp2_with fail
              refine (IH _ (by omega) (hbC.alloc hbC.size _)).mono ?_
              rintro e w5 ⟨rfl, hb5⟩
              have hbw5 : Below w'.heap.size w' w5 := (hb.alloc hsz _).trans (hb5.mono (by simp; omega))
              rcases Bool.eq_false_or_eq_true (canF d v) with h | h
              · have HL : Hid ((l.take (j + 1)).all (canF d) = true) := by show _ = _; rw [HA.out, HRI.out, h]; rfl
                rw [h]
                go_wp2
                first
                  | exact ⟨⟨j + 1, by omega, (by first | rfl | go_num | (congr 1; omega)), HL.out, hbw5⟩, by simp [intOf] <;> omega⟩
                  | (refine ⟨?_, by simp [intOf] <;> omega⟩; (repeat apply Exists.intro); exact ⟨⟨j + 1, by omega, (by first | rfl | go_num | (congr 1; omega)), HL.out, hbw5⟩, rfl⟩)
              · have HR := Lib.hid (HM.out.trans (HN.out h))
                rw [h]
                go_wp2
                go_ret
                exact ⟨by rw [HR.out]; rfl, hbw5⟩
            · obtain rfl : j = l.length := by omega
              rw [List.take_length] at hri
              go_wp2
              go_ret
              exact ⟨by rw [HM.out, hri]; rfl, hb⟩
        · have HM := Lib.hid (canF_flat (d := d) (n := n) (b := b) (t := t) (ks := ks) (l := l) k0 (by omega))
          have g6 : ¬ 6 ≤ k := hk6
          go_wp2
          go_ret
          exact ⟨by rw [HM.out]; rfl, hb0⟩
  · have HR := Lib.hid (canF_bad (d := d) (n := n) (b := b) (t := t) (ks := ks) (l := l) hr)
    by_cases g0 : k < 0
    · clear hr
      go_wp2
      go_ret
      exact ⟨by rw [HR.out]; rfl, hb0⟩
    · have g7 : 7 < k := by omega
      clear hr
      go_wp2
      go_ret
      exact ⟨by rw [HR.out]; rfl, hb0⟩
end Go.Proofs.YtpchogicdnfggaaGreatDoor
set_option maxRecDepth 20000
namespace Go.Proofs.YtpchogicdnfggaaGreatDoor
open Go.RowKit Go.Hd

/-! What a call that appends to an owned row may change. -/
structure Gro (w w' : World) (v u : Value) : Prop where
  gr : w.grownBy w' v.ownBlock
  own : ∀ k, u.ownBlock = some k → v.ownBlock = some k ∨ w.heap.size ≤ k
theorem Gro.trans {a b c : World} {v u x : Value} (h : Gro a b v u) (k : Gro b c u x) : Gro a c v x := by
  refine ⟨⟨k.gr.os.trans h.gr.os, k.gr.tape.trans h.gr.tape, k.gr.output.trans h.gr.output, Nat.le_trans h.gr.size k.gr.size, fun i hi hne => ?_⟩, fun i hi => ?_⟩
  · rw [k.gr.block i (Nat.lt_of_lt_of_le hi h.gr.size) (fun e => ?_), h.gr.block i hi hne]
    rcases h.own i e.symm with h1 | h1
    · exact hne h1.symm
    · omega
  · rcases k.own i hi with h1 | h1
    · exact h.own i h1
    · exact .inr (Nat.le_trans h.gr.size h1)
theorem Gro.ofBelow {a b : World} {v : Value} (h : Below a.heap.size a b) : Gro a b v v := ⟨grownBy_below h, fun _ h => .inl h⟩
theorem Gro.size {a b : World} {v u : Value} (h : Gro a b v u) : a.heap.size ≤ b.heap.size := h.gr.size
/-- Old memory is as it was. -/
theorem Gro.below {w w' : World} {v u : Value} {base old : Nat} (h : Gro w w' v u) (hv : ∀ k, v.ownBlock = some k → base ≤ k) (hob : old ≤ base) (ho : old ≤ w.heap.size) : Below old w w' :=
  ⟨h.gr.os, h.gr.tape, h.gr.output, h.gr.size, fun i hi => h.gr.block i (by omega) (fun e => by have := hv i e.symm; omega)⟩
theorem Gro.blk {w w' : World} {v u : Value} {q : Nat} {T : TypeId} {xs : List Value} (h : Gro w w' v u) (hb : Blk w q T xs) (hq : v.ownBlock ≠ some q) : Blk w' q T xs ∧ u.ownBlock ≠ some q := by
  refine ⟨Blk.keptBy hb h.gr hq, fun e => ?_⟩
  rcases h.own q e with h1 | h1
  · exact hq h1
  · have := hb.lt; omega
theorem owns_rowN {w : World} {base : Nat} {e : TypeId} {v : Value} {n size : Nat} {xs : List Value} (h : w.ownsRow base e size v n xs) (_hs : 0 < size) :
    ∃ a c, v = .slice a n c ∧ n ≤ c ∧ c ≤ maxLen ∧ Row w a xs ∧ (0 < xs.length → v.ownBlock = some (hd a).block ∧ base ≤ (hd a).block ∧ (hd a).block < w.heap.size) := by
  obtain ⟨hl, ⟨rfl, rfl⟩ | ⟨g, c, cur, rfl, hg, hb, hn, hm, hy, ht⟩⟩ := h
  · obtain rfl : xs = [] := List.eq_nil_of_length_eq_zero (by simpa using hl)
    exact ⟨none, 0, rfl, Nat.le_refl _, Nat.zero_le _, Row.nil _ _, fun h => by simp at h⟩
  · have hB : Blk w g e cur.toList := by unfold Blk; simpa using hb
    refine ⟨_, c, rfl, hn, hm, ?_, fun _ => ⟨rfl, hg, hB.lt⟩⟩
    rw [← ht]; exact hB.row.take _
theorem own_app1 {t ty e : TypeId} {z : Value} {bytes : Nat} (E : Elem Tryz.prog t e z 1 bytes) {w : World} {base : Nat} {v : Value} {n : Nat} {xs : List Value} (hown : w.ownsRow base e 1 v n xs)
    (x : Value) (hx : x.oneCell' = true) (h63 : n + 1 ≤ maxLen) (hbytes : (n + 1) * bytes ≤ 140737488355328) (hbase : base ≤ w.heap.size) :
    ∃ a' c' w', (Builtin.append_ #[t, t] ty #[v, .slice (some ⟨w.heap.size, 0, none⟩) 1 1]).run Tryz.prog (w.alloc (.cells #[x] e)) = .ok (.slice a' (n + 1) c') w' ∧ w'.ownsRow base e 1 (.slice a' (n + 1) c') (n + 1) (xs ++ [x]) ∧ Gro w w' v (.slice a' (n + 1) c') := by
  have hsrc : Src Tryz.prog 1 t (.slice (some ⟨w.heap.size, 0, none⟩) 1 1) 1 [x] (w.alloc (.cells #[x] e)) :=
    Src.ofRow E.ht _ 1 1 [x] (by decide) rfl (Blk.new w e #[x]).row (fun u hu => by simp at hu; subst hu; exact hx)
  obtain ⟨v', w', h1, h2, h3, h4⟩ := append_srcK (ty := ty) E (hown.alloc _) hsrc h63 hbytes (by simp; omega)
  obtain ⟨a', c', rfl, _⟩ := owns_rowN h2 (by decide)
  have hb0 : Below w.heap.size w (w.alloc (.cells #[x] e)) := (Below.refl _ _).alloc (Nat.le_refl _) _
  exact ⟨a', c', w', h1, h2, (Gro.ofBelow hb0).trans ⟨h3, h4⟩⟩
theorem eS : Elem Tryz.prog 47 9 (.string .empty) 1 16 := ⟨by kernel_rfl, by kernel_rfl, rfl, by decide⟩
/-- A slice of texts of the call's own. -/
abbrev KsAt (base : Nat) (w : World) (u : Value) (ks : List (List UInt8)) : Prop := w.ownsRow base 9 1 u ks.length (ks.map strV)
theorem str_take (l : List UInt8) (n : Nat) : (str l).extract 0 n = str (l.take n) := by
  apply ByteArray.ext
  simp [str, ByteArray.data_extract, List.extract_toArray, List.extract_eq_take_drop]
end Go.Proofs.YtpchogicdnfggaaGreatDoor
set_option maxRecDepth 20000
namespace Go.Hd
open Go Go.RowKit
/-- An archive, a part, as they are. -/
structure Abt where
  name : List UInt8
  id : List UInt8
  time : Int
  comment : List UInt8
  items : Int
  bytes : Int
structure Prt where
  id : List UInt8
  size : Int
def prtC (p : Prt) : List Value := p.id.map b8 ++ [.int .i64 p.size]
structure AbtOk (x : Abt) : Prop where
  id : x.id.length = 32
  time : in64 x.time
  items : in64 x.items
  bytes : in64 x.bytes
  name : x.name.length ≤ maxLen
  comment : x.comment.length ≤ maxLen
structure PrtOk (p : Prt) : Prop where
  id : p.id.length = 32
  size : in64 p.size
theorem prtC_len {p : Prt} (h : PrtOk p) : (prtC p).length = 33 := by simp [prtC, h.id]
theorem b8_one (l : List UInt8) : ∀ v ∈ l.map b8, v.oneCell' = true := by
  intro v hv
  obtain ⟨c, _, rfl⟩ := List.mem_map.1 hv
  rfl
theorem prtC_one (p : Prt) : ∀ v ∈ prtC p, v.oneCell' = true := by
  intro v hv
  unfold prtC at hv
  rcases List.mem_append.1 hv with hv | hv
  · exact b8_one _ v hv
  · simp only [List.mem_cons, List.not_mem_nil, or_false] at hv
    subst hv; rfl
theorem prtC_32 {p : Prt} (h : PrtOk p) : (prtC p)[32]? = some (.int .i64 p.size) := by
  unfold prtC; rw [List.getElem?_append_right (by rw [List.length_map, h.id]; omega), List.length_map, h.id]; rfl
end Go.Hd
namespace Go.Proofs.YtpchogicdnfggaaGreatDoor
open Go.RowKit Go.Hd

section
variable (ρ : Operand → Value) (dst : Option Tmp) (ty : TypeId) (pos : String) (after : Array Edge) (guard : Option (Nat × Bool))
theorem h_ldID (x : Operand) : execOp ρ { dst, op := .load 75 x, type := ty, pos, after, guard } = (do pure (.value (← ldOp 75 (ρ x)))) := rfl
theorem h_stID (x y : Operand) : execOp ρ { dst, op := .store 75 x y, type := ty, pos, after, guard } = (do stoOp 75 (ρ x) (ρ y); pure .skip) := rfl
theorem h_alID : execOp ρ { dst, op := .alloc 75, type := ty, pos, after, guard } = (do pure (.value (← alOp 75))) := rfl
theorem h_ldPA (x : Operand) : execOp ρ { dst, op := .load 77 x, type := ty, pos, after, guard } = (do pure (.value (← ldOp 77 (ρ x)))) := rfl
theorem h_stPA (x y : Operand) : execOp ρ { dst, op := .store 77 x y, type := ty, pos, after, guard } = (do stoOp 77 (ρ x) (ρ y); pure .skip) := rfl
theorem h_alPA : execOp ρ { dst, op := .alloc 77, type := ty, pos, after, guard } = (do pure (.value (← alOp 77))) := rfl
theorem h_bdPA (parts : Array (Nat × Operand)) : execOp ρ { dst, op := .build 77 parts, type := ty, pos, after, guard } = (do pure (.value (← bdOp 77 (parts.map fun (i, x) => (i, ρ x))))) := rfl
theorem h_bsPA (n : Nat) (parts : Array (Nat × Operand)) : execOp ρ { dst, op := .buildSlice 38 n parts, type := ty, pos, after, guard } = (do pure (.value (← bsOp 38 n (parts.map fun (i, x) => (i, ρ x))))) := rfl
theorem h_nqPA (x y : Operand) (t : TypeId) : execOp ρ { dst, op := .binOp .neq 77 x y t, type := ty, pos, after, guard } = (do pure (.value (← nqOp 77 x y (ρ x) (ρ y)))) := rfl
theorem h_ap (x : Operand) : execOp ρ { dst, op := .sliceToArrayPointer 75 x, type := ty, pos, after, guard } = (do pure (.value (← apOp 75 (ρ x)))) := rfl
end
def zID : Array Value := List.toArray (α := Value) (List.replicate 32 (.int .u8 0))
theorem infoID : (Tryz.prog.info? 75).map (fun i => (i.zero, i.size)) = some (some (.agg zID), 32) := by kernel_rfl
theorem sizeID : (Tryz.prog.info? 75).map (·.size) = some 32 := (zero_of_info infoID).2
theorem zeroID : (Tryz.prog.info? 75).bind (·.zero) = some (.agg zID) := by kernel_rfl
theorem r_ldID {w : World} {b : Nat} {cs : Array Value} {T : TypeId} (hb : w.heap.size = b) (hs : cs.size = 32) : (ldOp 75 (.pointer (some ⟨b, 0, none⟩))).run Tryz.prog (w.alloc (.cells cs T)) = .ok (.agg cs) (w.alloc (.cells cs T)) :=
  ldOp_new hb Tryz.underlying75 rfl (by rw [hs]; exact sizeID)
theorem r_stID {w : World} {b : Nat} {old cs : Array Value} {T : TypeId} (hb : w.heap.size = b) (ho : old.size = 32) (hs : cs.size = 32) (h1 : OneC cs) : (stoOp 75 (.pointer (some ⟨b, 0, none⟩)) (.agg cs)).run Tryz.prog (w.alloc (.cells old T)) = .ok () (w.alloc (.cells cs T)) :=
  stOp_new hb (by rw [hs]; exact sizeID) (by rw [ho, hs]) h1
theorem r_alID {w : World} : (alOp 75).run Tryz.prog w = .ok (.pointer (some ⟨w.heap.size, 0, none⟩)) (w.alloc (.cells zID 75)) := alOp_run zeroID
def zPA : Array Value := List.toArray (α := Value) (List.replicate 32 (.int .u8 0) ++ [.int .i64 0])
theorem zPA_size : zPA.size = 33 := by rfl
theorem zPA_one : OneC zPA := by unfold OneC; decide +kernel
theorem infoPA : (Tryz.prog.info? 77).map (fun i => (i.zero, i.size)) = some (some (.agg zPA), 33) := by kernel_rfl
theorem sizePA : (Tryz.prog.info? 77).map (·.size) = some 33 := (zero_of_info infoPA).2
theorem zeroPA : (Tryz.prog.info? 77).bind (·.zero) = some (.agg zPA) := by kernel_rfl
theorem r_ldPA {w : World} {b : Nat} {cs : Array Value} {T : TypeId} (hb : w.heap.size = b) (hs : cs.size = 33) : (ldOp 77 (.pointer (some ⟨b, 0, none⟩))).run Tryz.prog (w.alloc (.cells cs T)) = .ok (.agg cs) (w.alloc (.cells cs T)) :=
  ldOp_new hb Tryz.underlying77 rfl (by rw [hs]; exact sizePA)
theorem r_stPA {w : World} {b : Nat} {old cs : Array Value} {T : TypeId} (hb : w.heap.size = b) (ho : old.size = 33) (hs : cs.size = 33) (h1 : OneC cs) : (stoOp 77 (.pointer (some ⟨b, 0, none⟩)) (.agg cs)).run Tryz.prog (w.alloc (.cells old T)) = .ok () (w.alloc (.cells cs T)) :=
  stOp_new hb (by rw [hs]; exact sizePA) (by rw [ho, hs]) h1
theorem r_alPA {w : World} : (alOp 77).run Tryz.prog w = .ok (.pointer (some ⟨w.heap.size, 0, none⟩)) (w.alloc (.cells zPA 77)) := alOp_run zeroPA
theorem r_bsPA {w : World} {cs : Array Value} (hs : cs.size = 33) : (bsOp 38 1 #[(0, .agg cs)]).run Tryz.prog w = .ok (.slice (some ⟨w.heap.size, 0, none⟩) 1 1) (w.alloc (.cells cs 77)) :=
  bsOp_one Tryz.underlying38 infoPA (by decide) (by decide) (by exact zPA_size) hs
theorem ePA : Elem Tryz.prog 38 77 (.agg zPA) 33 40 := ⟨by kernel_rfl, by kernel_rfl, rfl, by decide⟩
theorem r_ap {w : World} {a : Addr} {c : Nat} : (apOp 75 (.slice (some a) 32 c)).run Tryz.prog w = .ok (.pointer (some a)) w := apOp_run Tryz.underlying75 (Nat.le_refl _)
end Go.Proofs.YtpchogicdnfggaaGreatDoor
namespace Go.Proofs
open Go.Shelf
def Tryz.lays219_ren : Go.Shelf.Ren := ⟨fun | 219 => 84 | 217 => 103 | 225 => 104 | 224 => 105 | 267 => 106 | 266 => 112 | 314 => 113 | n => n, fun | 9 => 9 | 3 => 3 | 4 => 4 | 5 => 5 | 46 => 91 | 146 => 147 | 51 => 146 | n => n, fun | 1 => 0 | n => n⟩
theorem Tryz.lays219 : Go.Proofs.Lays.n219 Tryz.prog Tryz.lays219_ren := {
  mixed := by kernel_rfl
  f217 := Tryz.func103.trans (congrArg some (by kernel_rfl))
  f219 := Tryz.func84.trans (congrArg some (by kernel_rfl))
  f224 := Tryz.func105.trans (congrArg some (by kernel_rfl))
  f225 := Tryz.func104.trans (congrArg some (by kernel_rfl))
  f266 := Tryz.func112.trans (congrArg some (by kernel_rfl))
  f267 := Tryz.func106.trans (congrArg some (by kernel_rfl))
  f314 := Tryz.func113.trans (congrArg some (by kernel_rfl))
  t3 := Tryz.underlying3
  a3 := Tryz.isAgg3
  z3 := Tryz.sizeOf3
  v3 := Tryz.zeroValue3
  t4 := Tryz.underlying4
  a4 := Tryz.isAgg4
  z4 := Tryz.sizeOf4
  v4 := Tryz.zeroValue4
  t5 := Tryz.underlying5
  a5 := Tryz.isAgg5
  z5 := Tryz.sizeOf5
  v5 := Tryz.zeroValue5
  t9 := Tryz.underlying9
  a9 := Tryz.isAgg9
  z9 := Tryz.sizeOf9
  v9 := Tryz.zeroValue9
  t46 := Tryz.underlying91
  a46 := Tryz.isAgg91
  z46 := Tryz.sizeOf91
  v46 := Tryz.zeroValue91
  t51 := Tryz.underlying146
  a51 := Tryz.isAgg146
  z51 := Tryz.sizeOf146
  v51 := Tryz.zeroValue146
  t146 := Tryz.underlying147
  a146 := Tryz.isAgg147
  z146 := Tryz.sizeOf147
  v146 := Tryz.zeroValue147
  g1 := by kernel_rfl }
open Go.RowKit Go.Lib in
theorem Tryz.stringslite_Index_one (s : ByteArray) (c : UInt8) (w : World) :
    Calls Tryz.prog 84 #[.string s, .string ⟨#[c]⟩] w fun e w' => e = .returned (.int .i64 (Lib.indexByte s.data.toList c)) ∧ w' = w := Any.stringslite_Index_one Tryz.lays219 s c w
def Tryz.lays143_ren : Go.Shelf.Ren := ⟨fun | 143 => 108 | 219 => 84 | 217 => 103 | 225 => 104 | 224 => 105 | 267 => 106 | 266 => 112 | 314 => 113 | n => n, fun | 9 => 9 | 3 => 3 | 4 => 4 | 5 => 5 | 46 => 91 | 146 => 147 | 51 => 146 | n => n, fun | 1 => 0 | n => n⟩
theorem Tryz.lays143 : Go.Proofs.Lays.n143 Tryz.prog Tryz.lays143_ren := {
  mixed := by kernel_rfl
  f143 := Tryz.func108.trans (congrArg some (by kernel_rfl))
  f217 := Tryz.func103.trans (congrArg some (by kernel_rfl))
  f219 := Tryz.func84.trans (congrArg some (by kernel_rfl))
  f224 := Tryz.func105.trans (congrArg some (by kernel_rfl))
  f225 := Tryz.func104.trans (congrArg some (by kernel_rfl))
  f266 := Tryz.func112.trans (congrArg some (by kernel_rfl))
  f267 := Tryz.func106.trans (congrArg some (by kernel_rfl))
  f314 := Tryz.func113.trans (congrArg some (by kernel_rfl))
  t3 := Tryz.underlying3
  a3 := Tryz.isAgg3
  z3 := Tryz.sizeOf3
  v3 := Tryz.zeroValue3
  t4 := Tryz.underlying4
  a4 := Tryz.isAgg4
  z4 := Tryz.sizeOf4
  v4 := Tryz.zeroValue4
  t5 := Tryz.underlying5
  a5 := Tryz.isAgg5
  z5 := Tryz.sizeOf5
  v5 := Tryz.zeroValue5
  t9 := Tryz.underlying9
  a9 := Tryz.isAgg9
  z9 := Tryz.sizeOf9
  v9 := Tryz.zeroValue9
  t46 := Tryz.underlying91
  a46 := Tryz.isAgg91
  z46 := Tryz.sizeOf91
  v46 := Tryz.zeroValue91
  t51 := Tryz.underlying146
  a51 := Tryz.isAgg146
  z51 := Tryz.sizeOf146
  v51 := Tryz.zeroValue146
  t146 := Tryz.underlying147
  a146 := Tryz.isAgg147
  z146 := Tryz.sizeOf147
  v146 := Tryz.zeroValue147
  g1 := by kernel_rfl }
open Go.RowKit Go.Lib in
theorem Tryz.strings_Index_one (s : ByteArray) (c : UInt8) (w : World) :
    Calls Tryz.prog 108 #[.string s, .string ⟨#[c]⟩] w fun e w' => e = .returned (.int .i64 (Lib.indexByte s.data.toList c)) ∧ w' = w := Any.strings_Index_one Tryz.lays143 s c w
def Tryz.lays144_ren : Go.Shelf.Ren := ⟨fun | 144 => 91 | 143 => 108 | 219 => 84 | 217 => 103 | 225 => 104 | 224 => 105 | 267 => 106 | 266 => 112 | 314 => 113 | n => n, fun | 9 => 9 | 4 => 4 | 3 => 3 | 5 => 5 | 46 => 91 | 146 => 147 | 51 => 146 | n => n, fun | 1 => 0 | n => n⟩
theorem Tryz.lays144 : Go.Proofs.Lays.n144 Tryz.prog Tryz.lays144_ren := {
  mixed := by kernel_rfl
  f143 := Tryz.func108.trans (congrArg some (by kernel_rfl))
  f144 := Tryz.func91.trans (congrArg some (by kernel_rfl))
  f217 := Tryz.func103.trans (congrArg some (by kernel_rfl))
  f219 := Tryz.func84.trans (congrArg some (by kernel_rfl))
  f224 := Tryz.func105.trans (congrArg some (by kernel_rfl))
  f225 := Tryz.func104.trans (congrArg some (by kernel_rfl))
  f266 := Tryz.func112.trans (congrArg some (by kernel_rfl))
  f267 := Tryz.func106.trans (congrArg some (by kernel_rfl))
  f314 := Tryz.func113.trans (congrArg some (by kernel_rfl))
  t3 := Tryz.underlying3
  a3 := Tryz.isAgg3
  z3 := Tryz.sizeOf3
  v3 := Tryz.zeroValue3
  t4 := Tryz.underlying4
  a4 := Tryz.isAgg4
  z4 := Tryz.sizeOf4
  v4 := Tryz.zeroValue4
  t5 := Tryz.underlying5
  a5 := Tryz.isAgg5
  z5 := Tryz.sizeOf5
  v5 := Tryz.zeroValue5
  t9 := Tryz.underlying9
  a9 := Tryz.isAgg9
  z9 := Tryz.sizeOf9
  v9 := Tryz.zeroValue9
  t46 := Tryz.underlying91
  a46 := Tryz.isAgg91
  z46 := Tryz.sizeOf91
  v46 := Tryz.zeroValue91
  t51 := Tryz.underlying146
  a51 := Tryz.isAgg146
  z51 := Tryz.sizeOf146
  v51 := Tryz.zeroValue146
  t146 := Tryz.underlying147
  a146 := Tryz.isAgg147
  z146 := Tryz.sizeOf147
  v146 := Tryz.zeroValue147
  g1 := by kernel_rfl }
open Go.RowKit Go.Lib in
theorem Tryz.strings_Contains_one (s : ByteArray) (c : UInt8) (w : World) :
    Calls Tryz.prog 91 #[.string s, .string ⟨#[c]⟩] w fun e w' => e = .returned (.bool (decide (0 ≤ Lib.indexByte s.data.toList c))) ∧ w' = w := Any.strings_Contains_one Tryz.lays144 s c w
def Tryz.lays138_ren : Go.Shelf.Ren := ⟨fun | 138 => 115 | 195 => 118 | 218 => 120 | 143 => 108 | 219 => 84 | 217 => 103 | 225 => 104 | 224 => 105 | 267 => 106 | 266 => 112 | 314 => 113 | n => n, fun | 9 => 9 | 3 => 3 | 4 => 4 | 5 => 5 | 0 => 0 | 46 => 91 | 146 => 147 | 51 => 146 | n => n, fun | 1 => 0 | n => n⟩
theorem Tryz.lays138 : Go.Proofs.Lays.n138 Tryz.prog Tryz.lays138_ren := {
  mixed := by kernel_rfl
  f138 := Tryz.func115.trans (congrArg some (by kernel_rfl))
  f143 := Tryz.func108.trans (congrArg some (by kernel_rfl))
  f195 := Tryz.func118.trans (congrArg some (by kernel_rfl))
  f217 := Tryz.func103.trans (congrArg some (by kernel_rfl))
  f218 := Tryz.func120.trans (congrArg some (by kernel_rfl))
  f219 := Tryz.func84.trans (congrArg some (by kernel_rfl))
  f224 := Tryz.func105.trans (congrArg some (by kernel_rfl))
  f225 := Tryz.func104.trans (congrArg some (by kernel_rfl))
  f266 := Tryz.func112.trans (congrArg some (by kernel_rfl))
  f267 := Tryz.func106.trans (congrArg some (by kernel_rfl))
  f314 := Tryz.func113.trans (congrArg some (by kernel_rfl))
  t0 := Tryz.underlying0
  a0 := Tryz.isAgg0
  z0 := Tryz.sizeOf0
  v0 := Tryz.zeroValue0
  t3 := Tryz.underlying3
  a3 := Tryz.isAgg3
  z3 := Tryz.sizeOf3
  v3 := Tryz.zeroValue3
  t4 := Tryz.underlying4
  a4 := Tryz.isAgg4
  z4 := Tryz.sizeOf4
  v4 := Tryz.zeroValue4
  t5 := Tryz.underlying5
  a5 := Tryz.isAgg5
  z5 := Tryz.sizeOf5
  v5 := Tryz.zeroValue5
  t9 := Tryz.underlying9
  a9 := Tryz.isAgg9
  z9 := Tryz.sizeOf9
  v9 := Tryz.zeroValue9
  t46 := Tryz.underlying91
  a46 := Tryz.isAgg91
  z46 := Tryz.sizeOf91
  v46 := Tryz.zeroValue91
  t51 := Tryz.underlying146
  a51 := Tryz.isAgg146
  z51 := Tryz.sizeOf146
  v51 := Tryz.zeroValue146
  t146 := Tryz.underlying147
  a146 := Tryz.isAgg147
  z146 := Tryz.sizeOf147
  v146 := Tryz.zeroValue147
  g1 := by kernel_rfl }
open Go.RowKit Go.Lib in
theorem Tryz.strings_Count_one (s : ByteArray) (c : UInt8) (w : World) :
    Calls Tryz.prog 115 #[.string s, .string ⟨#[c]⟩] w fun e w' => e = .returned (.int .i64 (Lib.countByte s.data.toList c)) ∧ w' = w := Any.strings_Count_one Tryz.lays138 s c w
def Tryz.lays221_ren : Go.Shelf.Ren := ⟨fun | 221 => 107 | 268 => 114 | 138 => 115 | 143 => 108 | 195 => 118 | 197 => 119 | 218 => 120 | 219 => 84 | 260 => 121 | 217 => 103 | 225 => 104 | 224 => 105 | 267 => 106 | 266 => 112 | 314 => 113 | n => n, fun | 9 => 9 | 3 => 3 | 31 => 47 | 4 => 4 | 0 => 0 | 105 => 152 | 21 => 21 | 5 => 5 | 46 => 91 | 119 => 154 | 139 => 157 | 138 => 156 | 146 => 147 | 51 => 146 | n => n, fun | 1 => 0 | 3 => 1 | 4 => 2 | n => n⟩
theorem Tryz.lays221 : Go.Proofs.Lays.n221 Tryz.prog Tryz.lays221_ren := {
  mixed := by kernel_rfl
  f138 := Tryz.func115.trans (congrArg some (by kernel_rfl))
  f143 := Tryz.func108.trans (congrArg some (by kernel_rfl))
  f195 := Tryz.func118.trans (congrArg some (by kernel_rfl))
  f197 := Tryz.func119.trans (congrArg some (by kernel_rfl))
  f217 := Tryz.func103.trans (congrArg some (by kernel_rfl))
  f218 := Tryz.func120.trans (congrArg some (by kernel_rfl))
  f219 := Tryz.func84.trans (congrArg some (by kernel_rfl))
  f221 := Tryz.func107.trans (congrArg some (by kernel_rfl))
  f224 := Tryz.func105.trans (congrArg some (by kernel_rfl))
  f225 := Tryz.func104.trans (congrArg some (by kernel_rfl))
  f260 := Tryz.func121.trans (congrArg some (by kernel_rfl))
  f266 := Tryz.func112.trans (congrArg some (by kernel_rfl))
  f267 := Tryz.func106.trans (congrArg some (by kernel_rfl))
  f268 := Tryz.func114.trans (congrArg some (by kernel_rfl))
  f314 := Tryz.func113.trans (congrArg some (by kernel_rfl))
  t0 := Tryz.underlying0
  a0 := Tryz.isAgg0
  z0 := Tryz.sizeOf0
  v0 := Tryz.zeroValue0
  t3 := Tryz.underlying3
  a3 := Tryz.isAgg3
  z3 := Tryz.sizeOf3
  v3 := Tryz.zeroValue3
  t4 := Tryz.underlying4
  a4 := Tryz.isAgg4
  z4 := Tryz.sizeOf4
  v4 := Tryz.zeroValue4
  t5 := Tryz.underlying5
  a5 := Tryz.isAgg5
  z5 := Tryz.sizeOf5
  v5 := Tryz.zeroValue5
  t9 := Tryz.underlying9
  a9 := Tryz.isAgg9
  z9 := Tryz.sizeOf9
  v9 := Tryz.zeroValue9
  t21 := Tryz.underlying21
  a21 := Tryz.isAgg21
  z21 := Tryz.sizeOf21
  v21 := Tryz.zeroValue21
  t31 := Tryz.underlying47
  a31 := Tryz.isAgg47
  z31 := Tryz.sizeOf47
  v31 := Tryz.zeroValue47
  t46 := Tryz.underlying91
  a46 := Tryz.isAgg91
  z46 := Tryz.sizeOf91
  v46 := Tryz.zeroValue91
  t51 := Tryz.underlying146
  a51 := Tryz.isAgg146
  z51 := Tryz.sizeOf146
  v51 := Tryz.zeroValue146
  t105 := Tryz.underlying152
  a105 := Tryz.isAgg152
  z105 := Tryz.sizeOf152
  v105 := Tryz.zeroValue152
  t119 := Tryz.underlying154
  a119 := Tryz.isAgg154
  z119 := Tryz.sizeOf154
  t138 := Tryz.underlying156
  a138 := Tryz.isAgg156
  z138 := Tryz.sizeOf156
  v138 := Tryz.zeroValue156
  t139 := Tryz.underlying157
  a139 := Tryz.isAgg157
  z139 := Tryz.sizeOf157
  v139 := Tryz.zeroValue157
  t146 := Tryz.underlying147
  a146 := Tryz.isAgg147
  z146 := Tryz.sizeOf147
  v146 := Tryz.zeroValue147
  g1 := by kernel_rfl
  g3 := by kernel_rfl
  g4 := by kernel_rfl }
end Go.Proofs
