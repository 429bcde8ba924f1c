/- Joined: what one statement of this layer stands on, part 2 of 20; nothing is assumed. -/
import Derived.Test.YtpchogicdnfggaaDoorProg
import Derived.Test.YtpchogicdnfggaaDoorRows
import Derived.Deep.DeepCutAuto
import Derived.Ground.Names2Prog
import Derived.Shelf.LaysM
import Derived.Shelf.Slices.Cells
import Derived.Shelf.Slices.ReverseS
import Derived.Shelf.Strings.Count
import Derived.Shelf.Strings.Cut
import Derived.Shelf.Strings.RuneCount
import Derived.Shelf.Strings.Search1
import Derived.Shelf.Strings.Search2
import Derived.Shelf.Strings.Search3
import Derived.Shelf.Strings.Shaped
import Derived.Shelf.Strings.Split
import Derived.Shelf.Strings.SplitShaped
import Derived.Shelf.Unicode.Decode
import Derived.Shelf.Unicode.DecodeAny
import Derived.Shelf.Unicode.DecodeSlow
import Derived.Test.YtpchogicdnfggaaDoorKS1
set_option maxRecDepth 20000
namespace Go.Hd
open Go Go.RowKit

/-- A value, as it is packed. -/
inductive PV where
  | mk (kind int : Int) (bytes text : List UInt8) (keys : List (List UInt8)) (list : List PV)
namespace PV
def kind : PV → Int | mk k _ _ _ _ _ => k
def int : PV → Int | mk _ n _ _ _ _ => n
def bytes : PV → List UInt8 | mk _ _ b _ _ _ => b
def text : PV → List UInt8 | mk _ _ _ t _ _ => t
def keys : PV → List (List UInt8) | mk _ _ _ _ k _ => k
def list : PV → List PV | mk _ _ _ _ _ l => l
end PV
def strV (t : List UInt8) : Value := .string (str t)
def in64 (n : Int) : Prop := -9223372036854775808 ≤ n ∧ n ≤ 9223372036854775807
/-- Six cells that hold a value. -/
inductive VAt (w : World) : List Value → PV → Prop
  | mk {k n : Int} {b t : List UInt8} {ks : List (List UInt8)} {l : List PV} {ab ak al : Option Addr} {cb ck cl : Nat} (css : List (List Value))
      (hk : in64 k) (hn : in64 n) (hb : Row w ab (b.map b8)) (hbc : b.length ≤ cb ∧ cb ≤ maxLen) (ht : t.length ≤ maxLen)
      (hks : Row w ak (ks.map strV)) (hkc : ks.length ≤ ck ∧ ck ≤ maxLen) (hkt : ∀ x ∈ ks, x.length ≤ maxLen) (hl : Row w al css.flatten) (hlc : l.length ≤ cl ∧ cl ≤ maxLen) (hcs : css.length = l.length) (h6 : ∀ c ∈ css, c.length = 6)
      (sub : ∀ (i : Nat) (c : List Value) (v : PV), css[i]? = some c → l[i]? = some v → VAt w c v) :
      VAt w [.int .i64 k, .int .i64 n, .slice ab b.length cb, strV t, .slice ak ks.length ck, .slice al l.length cl] (.mk k n b t ks l)
theorem VAt.len {w : World} {cs : List Value} {v : PV} (h : VAt w cs v) : cs.length = 6 := by
  cases h; rfl
theorem VAt.one {w : World} {cs : List Value} {v : PV} (h : VAt w cs v) : ∀ u ∈ cs, u.oneCell' = true := by
  cases h
  intro u hu
  simp only [List.mem_cons, List.not_mem_nil, or_false] at hu
  rcases hu with rfl | rfl | rfl | rfl | rfl | rfl <;> rfl
theorem VAt.keep {w w' : World} {cs : List Value} {v : PV} (h : VAt w cs v) (hb : Below w.heap.size w w') : VAt w' cs v := by
  induction h with
  | mk css hk hn hB hbc ht hks hkc hkt hl hlc hcs h6 _ ih => exact .mk css hk hn (hB.below hb) hbc ht (hks.below hb) hkc hkt (hl.below hb) hlc hcs h6 ih
/-- The zero value. -/
def pv0 : PV := .mk 0 0 [] [] [] []
/-! What can be. -/
/-- A text is not behind another one. -/
def leT (a b : List UInt8) : Bool := Op.bytesLess (str a).toList (str b).toList || (str a).toList == (str b).toList
def risesT : List (List UInt8) → Bool
  | a :: b :: l => !leT b a && risesT (b :: l)
  | _ => true
theorem risesT_snoc : ∀ (l : List (List UInt8)) (r s : List UInt8), risesT (l ++ [r, s]) = (risesT (l ++ [r]) && !leT s r)
  | [], r, s => by simp [risesT]
  | [x], r, s => by simp [risesT]
  | x :: y :: l, r, s => by
    have := risesT_snoc (y :: l) r s
    simp only [List.cons_append, risesT] at *
    rw [this, Bool.and_assoc]
theorem risesT_take (l : List (List UInt8)) (i : Nat) (h : i + 1 < l.length) : risesT (l.take (i + 2)) = (risesT (l.take (i + 1)) && !leT l[i + 1] l[i]) := by
  rw [List.take_succ_eq_append_getElem h, List.take_succ_eq_append_getElem (by omega : i < l.length), List.append_assoc]
  exact risesT_snoc _ _ _
theorem risesT_one (l : List (List UInt8)) : risesT (l.take 1) = true := by
  match l with
  | [] => rfl
  | x :: l => rfl
theorem risesT_of (l : List (List UInt8)) (n : Nat) (h : risesT l = true) : risesT (l.take n) = true := by
  induction l generalizing n with
  | nil => simp [risesT]
  | cons r l ih =>
    match n, l with
    | 0, _ => rfl
    | 1, _ => simp [risesT]
    | n + 2, [] => simp [risesT]
    | n + 2, s :: l =>
      simp only [risesT, Bool.and_eq_true] at h
      have := ih (n + 1) h.2
      simp only [List.take_succ_cons, risesT, h.1, Bool.true_and] at this ⊢
      exact this
def canF : Nat → PV → Bool
  | 0, _ => false
  | d + 1, v => decide (0 ≤ v.kind ∧ v.kind ≤ 7) && (v.kind != 7 || (v.keys.length == v.list.length && risesT v.keys)) && (decide (v.kind < 6) || v.list.all (canF d))

/-! Which bytes a value has. -/
def bigB (x : Nat) (n : Nat) : List UInt8 := (putL x n).reverse
def u64Of (x : Int) : Nat := (x % 18446744073709551616).toNat
def intB (x : Int) : List UInt8 :=
  if -32 ≤ x ∧ x ≤ 127 then [UInt8.ofNat (x % 256).toNat] else
  if 0 ≤ x then
    if x ≤ 255 then 0xcc :: bigB (u64Of x) 1 else if x ≤ 65535 then 0xcd :: bigB (u64Of x) 2 else if x ≤ 4294967295 then 0xce :: bigB (u64Of x) 4 else 0xcf :: bigB (u64Of x) 8
  else
    if -128 ≤ x then 0xd0 :: bigB (u64Of x) 1 else if -32768 ≤ x then 0xd1 :: bigB (u64Of x) 2 else if -2147483648 ≤ x then 0xd2 :: bigB (u64Of x) 4 else 0xd3 :: bigB (u64Of x) 8
end Go.Hd
set_option maxRecDepth 20000
namespace Go.Proofs.YtpchogicdnfggaaDoor
open Go.RowKit Go.Hd

theorem eB : Elem Tryd.prog 26 5 (.int .u8 0) 1 1 := ⟨by kernel_rfl, by kernel_rfl, rfl, by decide⟩

/-- v is the call's own, holds l; what was there is as it was. -/
def Fresh (w w' : World) (v : Value) (l : List UInt8) : Prop := w'.ownsRow w.heap.size 5 1 v l.length (l.map b8) ∧ Below w.heap.size w w'

theorem same_any {a b : Option Addr} {n1 n2 c d : Nat} {l m : List UInt8} {w : World} (h1 : n1 = l.length) (h2 : n2 = m.length) (hl : Row w a (l.map b8)) (hm : Row w b (m.map b8)) (hc : l.length ≤ maxLen) :
    Calls Tryd.prog 20 #[.slice a n1 c, .slice b n2 d] w fun e w' => e = .returned (.bool (l == m)) ∧ ∃ n, w' = w.drewN n := by
  subst h1 h2
  unfold maxLen at hc
  by_cases hlen : l.length = m.length
  · have hne : ((l.length : Int) != (m.length : Int)) = false := by simp [hlen]
    have HL := Lib.hid hlen
    have hle : l.length ≤ m.length := by omega
    clear hlen
    go_enter Tryd.func20, Tryd.ntmps20
    go_wp2
    go_loopw [5] (fun i w' => ∃ k : Nat, k ≤ l.length ∧ i = .int .i64 k ∧ l.take k = m.take k ∧ ∃ n, w' = w.drewN n) (fun i _ => l.length - (intOf i).toNat)
    case atStart => exact ⟨0, Nat.zero_le _, rfl, rfl, 0, rfl⟩
    case round =>
      obtain ⟨k, hk, rfl, htake, n, rfl⟩ := hrel
      have HT := Lib.hid htake
      clear htake
      by_cases hlt : k < l.length
      · have hlt2 : k < m.length := by omega
        have c1 := hl.byte hlt
        have c2 := hm.byte hlt2
        have s1 := hl.byteSome hlt
        have s2 := hm.byteSome hlt2
        go_wp2
        go_quiet (fail)
        go_wp2
        · go_ret
          refine ⟨ret_bool ?_, n + nq, by first | rfl | rw [drewN_two]⟩
          rename_i hx
          have h1 : l[k].toNat ≠ m[k].toNat := by have h := hx; simp at h; omega
          refine (beq_eq_false_iff_ne.2 ?_).symm
          intro e
          exact h1 (by simp [e])
        · rename_i hx
          have h1 : l[k] = m[k] := UInt8.toNat_inj.1 (by have h := hx; simp at h; omega)
          have HK : Hid (l.take (k + 1) = m.take (k + 1)) := by
            show _ = _
            rw [List.take_succ_eq_append_getElem hlt, List.take_succ_eq_append_getElem hlt2, HT.out, h1]
          clear h1 hx
          go_roundw
          case rel => exact ⟨k + 1, by omega, by go_num, HK.out, n + nq, by first | rfl | rw [drewN_two]⟩
          case measure => simp [intOf]; omega
      · go_wp2
        go_ret
        refine ⟨ret_bool ?_, n, rfl⟩
        have := HL.out
        have h2 := HT.out
        rw [List.take_of_length_le (by omega), List.take_of_length_le (by omega)] at h2
        simp [h2]
  · have hne : ((l.length : Int) != (m.length : Int)) = true := by simp; omega
    have hle : (l == m) = false := by simp; intro h; exact hlen (by rw [h])
    rw [hle]
    have HL := Lib.hid hlen
    clear hlen hle
    go_enter Tryd.func20, Tryd.ntmps20
    go_wp2
    go_ret
    exact ⟨rfl, 0, rfl⟩

set_option maxRecDepth 20000 in
theorem put_any (x : Nat) (n : Nat) (w : World) (_hx : x < 18446744073709551616) (h1 : 1 ≤ n) (h8 : n ≤ 8) :
    Calls Tryd.prog 68 #[.int .u64 x, .int .i64 n] w fun e w' => ∃ v, e = .returned v ∧ Fresh w w' v (putL x n) := by
  obtain ⟨i0, hi, hz0, hz1, hz2⟩ := info_parts eB.hi
  have hmk := run_make (P := Tryd.prog) w 26 5 i0 (.int .u8 0) eB.ht hi hz0 .i64 .i64 n n (by omega) (Int.le_refl _) (by rw [hz2]; omega) (by omega)
  rw [hz1] at hmk
  simp only [Int.toNat_natCast, Nat.mul_one] at hmk
  have hm0 := toList_madeCells_one (.int .u8 0) n
  have hB : Blk (w.alloc (.cells (madeCells #[.int .u8 0] n) 5)) w.heap.size 5 (List.replicate n (.int .u8 0)) := by rw [← hm0]; exact Blk.new _ _ _
  have hb0 : Below w.heap.size w (w.alloc (.cells (madeCells #[.int .u8 0] n) 5)) := (Below.refl _ _).alloc (Nat.le_refl _) _
  clear hm0
  have HB := Lib.hid hB
  clear hB
  go_enter Tryd.func68, Tryd.ntmps68
  go_wp2
  go_loopw [17] (fun i w' => ∃ k : Nat, k ≤ n ∧ i = .int .i64 k ∧ Blk w' w.heap.size 5 ((putL x k).map b8 ++ List.replicate (n - k) (.int .u8 0)) ∧ Below w.heap.size w w') (fun i _ => n - (intOf i).toNat)
  case atStart => exact ⟨0, Nat.zero_le _, rfl, by simpa [putL] using HB.out, hb0⟩
  case round =>
    obtain ⟨k, hk, rfl, hB, hb⟩ := hrel
    by_cases hlt : k < n
    · have hc : wr.cell? ⟨w.heap.size, k, none⟩ = some (.int .u8 0) := hB.cell (by rw [List.getElem?_append_right (by simp)]; simp [List.getElem?_replicate]; omega)
      have hf := hB.free k
      have HS : Hid (Blk (wr.setCell ⟨w.heap.size, k, none⟩ (.int .u8 (((x : Int) / 2 ^ (8 * k)) % 256))) w.heap.size 5 ((putL x (k + 1)).map b8 ++ List.replicate (n - (k + 1)) (.int .u8 0))) := by
        have h := hB.set k (.int .u8 (((x : Int) / 2 ^ (8 * k)) % 256))
        rw [show n - k = (n - (k + 1)) + 1 by omega, set_next _ _ _ k _ (by simp)] at h
        rw [byte_shr] at h ⊢
        simp only [putL, List.map_append, List.map_cons, List.map_nil]
        exact h
      have hb1 := hb.setCell (p := ⟨w.heap.size, k, none⟩) (Nat.le_refl _) (.int .u8 (((x : Int) / 2 ^ (8 * k)) % 256))
      clear hB
      go_wp2
      first
        | exact ⟨⟨k + 1, by omega, by go_num, HS.out, hb1⟩, by simp [intOf] <;> omega⟩
        | (refine ⟨?_, by simp [intOf] <;> omega⟩; (repeat apply Exists.intro); exact ⟨⟨k + 1, by omega, by go_num, HS.out, hb1⟩, rfl⟩)
    · obtain rfl : k = n := by omega
      go_wp2
      go_ret
      have h := hB.owns (base := w.heap.size) (n := k) (c := k) (Nat.le_refl _) (Nat.le_refl _) (by simp) (by unfold maxLen; omega)
      refine ⟨_, rfl, ?_, hb⟩
      have e : ((putL x k).map b8).take k = (putL x k).map b8 := List.take_of_length_le (by simp)
      rw [putL_length]
      simp only [Nat.sub_self, List.replicate_zero, List.append_nil, e] at h
      exact h

theorem grown_set {w wr : World} {g : Nat} (h : w.grownBy wr (some g)) (i : Nat) (u : Value) : w.grownBy (wr.setCell ⟨g, i, none⟩ u) (some g) :=
  ⟨h.os, h.tape, h.output, by simpa [World.setCell] using h.size, fun k hk hne => by rw [Below.heap_setCell _ _ _ _ (fun e => hne (by simp only at e; rw [e]))]; exact h.block k hk hne⟩

theorem rev_any (g n c : Nat) (l : List UInt8) (rest : List Value) (w : World) (hB : Blk w g 5 (l.map b8 ++ rest)) (h1 : 1 ≤ n) (hn : n = l.length) (hm : l.length ≤ maxLen) :
    Calls Tryd.prog 69 #[.slice (some ⟨g, 0, none⟩) n c] w fun e w' => e = .returned (.tuple #[]) ∧ Blk w' g 5 (l.reverse.map b8 ++ rest) ∧ w.grownBy w' (some g) := by
  unfold maxLen at hm
  have HB := Lib.hid hB
  have HN := Lib.hid hn
  have hnm : n ≤ 2 ^ 63 - 1 := by omega
  clear hB hn hm
  go_enter Tryd.func69, Tryd.ntmps69
  go_wp2
  go_loopw [2, 3] (fun i j w' => ∃ (i0 j0 : Nat) (m : List UInt8), i0 + j0 + 1 = n ∧ i = .int .i64 i0 ∧ j = .int .i64 j0 ∧ RevAt l m n i0 j0 ∧ Blk w' g 5 (m.map b8 ++ rest) ∧ w.grownBy w' (some g)) (fun i _ _ => n - (intOf i).toNat)
  case atStart => exact ⟨0, n - 1, l, by omega, rfl, by congr 1; omega, RevAt.start l n, HB.out, World.grownBy.refl _ _⟩
  case round =>
    obtain ⟨i, j, m, hij, rfl, rfl, hr, hB, hg⟩ := hrel
    have HIJ := Lib.hid hij
    have hj : (j : Int) ≤ n := by omega
    have hjn : j < n := by omega
    have hin : i < n := by omega
    have hin2 : (i : Int) < n := by omega
    have hjn2 : (j : Int) < n := by omega
    have hml := hr.1
    have hn := HN.out
    by_cases hlt : i < j
    · have hmi : i < m.length := by omega
      have hmj : j < m.length := by omega
      have c1 := hB.byteL hmi
      have c2 := hB.byteL hmj
      have f1 := hB.free i
      have f2 := hB.free j
      have HS : Hid (Blk (((wr.setCell ⟨g, i, none⟩ (b8 m[j])).setCell ⟨g, j, none⟩ (b8 m[i])).drew) g 5 (((m.set i m[j]).set j m[i]).map b8 ++ rest)) :=
        ((hB.setL hmi m[j]).setL (by simpa using hmj) m[i]).drew
      have HG : Hid (w.grownBy (((wr.setCell ⟨g, i, none⟩ (b8 m[j])).setCell ⟨g, j, none⟩ (b8 m[i])).drew) (some g)) := grownBy_drew (grown_set (grown_set hg _ _) _ _)
      have HR : RevAt l ((m.set i m[j]).set j m[i]) n (i + 1) (j - 1) := hr.step (by omega) hij hlt
      have hlt2 : (i : Int) < j := by omega
      clear hij hml hB hg hr hn
      go_wp2
      go_region
      go_wp2
      have := HIJ.out
      first
        | exact ⟨⟨i + 1, j - 1, _, by omega, by go_num, by congr 1; omega, HR, HS.out, HG.out⟩, by simp [intOf] <;> omega⟩
        | (refine ⟨?_, by simp [intOf] <;> omega⟩; (repeat apply Exists.intro); exact ⟨⟨i + 1, j - 1, _, by omega, by go_num, by congr 1; omega, HR, HS.out, HG.out⟩, rfl⟩)
    · clear hn
      go_wp2
      go_end0
      refine ⟨rfl, ?_, hg⟩
      have hn := HN.out
      subst hn
      rw [← hr.whole hij hlt]
      exact hB
theorem Fresh.open {w w' : World} {v : Value} {l : List UInt8} (h : Fresh w w' v l) : ∃ a c, v = .slice a l.length c ∧ Row w' a (l.map b8) ∧ Below w.heap.size w w' ∧ l.length ≤ maxLen ∧ l.length ≤ c := by
  obtain ⟨a, c, hv, h1, h2, h3⟩ := owns_row h.1
  exact ⟨a, c, hv, h3, h.2, by omega, h1⟩
end Go.Proofs.YtpchogicdnfggaaDoor
set_option maxRecDepth 20000
namespace Go.Proofs.YtpchogicdnfggaaDoor
open Go.RowKit Go.Hd

section
variable (ρ : Operand → Value) (dst : Option Tmp) (ty : TypeId) (pos : String) (after : Array Edge) (guard : Option (Nat × Bool))
theorem h_ldV (x : Operand) : execOp ρ { dst, op := .load 30 x, type := ty, pos, after, guard } = (do pure (.value (← ldOp 30 (ρ x)))) := rfl
theorem h_stV (x y : Operand) : execOp ρ { dst, op := .store 30 x y, type := ty, pos, after, guard } = (do stoOp 30 (ρ x) (ρ y); pure .skip) := rfl
theorem h_alV : execOp ρ { dst, op := .alloc 30, type := ty, pos, after, guard } = (do pure (.value (← alOp 30))) := rfl
end
def zV : Array Value := List.toArray (α := Value) [.int .i64 0, .int .i64 0, .slice none 0 0, strV [], .slice none 0 0, .slice none 0 0]
theorem zV_size : zV.size = 6 := by rfl
theorem infoV : (Tryd.prog.info? 30).map (fun i => (i.zero, i.size)) = some (some (.agg zV), 6) := by kernel_rfl
theorem sizeV : (Tryd.prog.info? 30).map (·.size) = some 6 := (zero_of_info infoV).2
theorem zeroV : (Tryd.prog.info? 30).bind (·.zero) = some (.agg zV) := by kernel_rfl
theorem r_ldV {w : World} {b : Nat} {cs : Array Value} {T : TypeId} (hb : w.heap.size = b) (hs : cs.size = 6) : (ldOp 30 (.pointer (some ⟨b, 0, none⟩))).run Tryd.prog (w.alloc (.cells cs T)) = .ok (.agg cs) (w.alloc (.cells cs T)) :=
  ldOp_new hb Tryd.underlying30 rfl (by rw [hs]; exact sizeV)
theorem r_stV {w : World} {b : Nat} {old cs : Array Value} {T : TypeId} (hb : w.heap.size = b) (ho : old.size = 6) (hs : cs.size = 6) (h1 : OneC cs) : (stoOp 30 (.pointer (some ⟨b, 0, none⟩)) (.agg cs)).run Tryd.prog (w.alloc (.cells old T)) = .ok () (w.alloc (.cells cs T)) :=
  stOp_new hb (by rw [hs]; exact sizeV) (by rw [ho, hs]) h1
theorem r_alV {w : World} : (alOp 30).run Tryd.prog w = .ok (.pointer (some ⟨w.heap.size, 0, none⟩)) (w.alloc (.cells zV 30)) := alOp_run zeroV
attribute [local go_sem ↓] h_ldV h_stV h_alV
attribute [local go_sem] r_ldV r_stV r_alV

theorem canF_bad {d : Nat} {k n : Int} {b t : List UInt8} {ks : List (List UInt8)} {l : List PV} (h : ¬ (0 ≤ k ∧ k ≤ 7)) : canF d (.mk k n b t ks l) = false := by
  cases d with
  | zero => rfl
  | succ d => simp [canF, PV.kind, h]
theorem canF_map {d : Nat} {n : Int} {b t : List UInt8} {ks : List (List UInt8)} {l : List PV} (h : ¬ (ks.length = l.length ∧ risesT ks = true)) : canF d (.mk 7 n b t ks l) = false := by
  cases d with
  | zero => rfl
  | succ d =>
    simp only [canF, PV.kind, PV.keys, PV.list]
    have : (ks.length == l.length && risesT ks) = false := by
      cases h2 : (ks.length == l.length && risesT ks) with
      | false => rfl
      | true => simp at h2; exact absurd h2 h
    rw [this]; rfl
theorem canF_many {d : Nat} {k n : Int} {b t : List UInt8} {ks : List (List UInt8)} {l : List PV} (h6 : 6 ≤ k) (h7 : k ≤ 7) (h : k = 7 → ks.length = l.length ∧ risesT ks = true) : canF (d + 1) (.mk k n b t ks l) = l.all (canF d) := by
  show (decide (0 ≤ k ∧ k ≤ 7) && (k != 7 || (ks.length == l.length && risesT ks)) && (decide (k < 6) || l.all (canF d))) = _
  have e1 : decide (0 ≤ k ∧ k ≤ 7) = true := decide_eq_true ⟨by omega, h7⟩
  have e2 : decide (k < 6) = false := decide_eq_false (by omega)
  have e3 : (k != 7 || (ks.length == l.length && risesT ks)) = true := by
    by_cases hk : k = 7
    · obtain ⟨h1, h2⟩ := h hk; simp [h1, h2]
    · simp [hk]
  rw [e1, e2, e3]; simp
theorem canF_flat {d : Nat} {k n : Int} {b t : List UInt8} {ks : List (List UInt8)} {l : List PV} (h0 : 0 ≤ k) (h6 : k < 6) : canF (d + 1) (.mk k n b t ks l) = true := by
  show (decide (0 ≤ k ∧ k ≤ 7) && (k != 7 || (ks.length == l.length && risesT ks)) && (decide (k < 6) || l.all (canF d))) = _
  have e1 : decide (0 ≤ k ∧ k ≤ 7) = true := decide_eq_true ⟨h0, by omega⟩
  have e2 : decide (k < 6) = true := decide_eq_true h6
  have e3 : (k != 7) = true := by simp; omega
  rw [e1, e2, e3]; rfl
theorem risesT_not {ks : List (List UInt8)} {j : Nat} (h : risesT (ks.take j) = false) : risesT ks = false := by
  rcases Bool.eq_false_or_eq_true (risesT ks) with h2 | h2
  · rw [risesT_of ks j h2] at h; cases h
  · exact h2

set_option maxHeartbeats 2000000 in
theorem can_any {w : World} {cs : List Value} {v : PV} (h : VAt w cs v) : ∀ (d : Nat) (w' : World), d ≤ 1000 → Below w.heap.size w w' →
    Calls Tryd.prog 66 #[.agg cs.toArray, .int .i64 (d : Int)] w' fun e w'' => e = .returned (.bool (canF d v)) ∧ Below w'.heap.size w' w'' := by
  induction h with
  | @mk k n b t ks l ab ak al cb ck cl css hk hn hb hbc ht hks hkc hkt hl hlc hcs h6 sub ih =>
  intro d w' hdd hbw
  have hb0 : Below w'.heap.size w' (w'.alloc (.cells (List.toArray (α := Value) [.int .i64 k, .int .i64 n, .slice ab b.length cb, strV t, .slice ak ks.length ck, .slice al l.length cl]) 30)) := (Below.refl _ _).alloc (Nat.le_refl _) _
  have B0 : Blk (w'.alloc (.cells (List.toArray (α := Value) [.int .i64 k, .int .i64 n, .slice ab b.length cb, strV t, .slice ak ks.length ck, .slice al l.length cl]) 30)) w'.heap.size 30 [.int .i64 k, .int .i64 n, .slice ab b.length cb, strV t, .slice ak ks.length ck, .slice al l.length cl] := Blk.new _ _ _
  generalize hS : strV t = S at *
  have hSo : S.oneCell' = true := by rw [← hS]; rfl
  clear hS
  go_enter Tryd.func66, Tryd.ntmps66
  go_upto_region 1 with (fail)
  generalize w'.alloc (.cells (List.toArray (α := Value) [.int .i64 k, .int .i64 n, .slice ab b.length cb, S, .slice ak ks.length ck, .slice al l.length cl]) 30) = W at *
  have c0 : W.cell? ⟨w'.heap.size, 0, none⟩ = some (.int .i64 k) := B0.cell rfl
  have c4 : W.cell? ⟨w'.heap.size, 4, none⟩ = some (.slice ak ks.length ck) := B0.cell rfl
  have c5 : W.cell? ⟨w'.heap.size, 5, none⟩ = some (.slice al l.length cl) := B0.cell rfl
  by_cases hr : 0 ≤ k ∧ k ≤ 7
  · obtain ⟨k0, k7⟩ := hr
    have g0 : ¬ k < 0 := by omega
    have g7 : ¬ 7 < k := by omega
    cases d with
    | zero =>
      go_wp2
      go_ret
      exact ⟨rfl, hb0⟩
    | succ d =>
      have gd : (((d + 1 : Nat) : Int) == 0) = false := beq_eq_false_iff_ne.2 (by omega)
      have HMAP := Lib.hid (fun h => canF_map (d := d + 1) (n := n) (b := b) (t := t) (ks := ks) (l := l) h)
      go_upto_if 23 with (fail)
      go_cut [4] (fun _ wx => (Blk wx w'.heap.size 30 [.int .i64 k, .int .i64 n, .slice ab b.length cb, S, .slice ak ks.length ck, .slice al l.length cl] ∧ Below w'.heap.size w' wx) ∧ (k = 7 → ks.length = l.length ∧ risesT ks = true))
      case first =>
        by_cases h7 : k = 7
        · subst h7
          by_cases hkl : ks.length = l.length
          · have t1 : ((ks.length : Int) != (l.length : Int)) = false := by rw [hkl]; simp
            have HKL := Lib.hid hkl
            clear hkl
            go_wp2
            go_loopw [34] (fun i wr => ∃ j : Nat, j ≤ ks.length ∧ i = .int .i64 j ∧ risesT (ks.take j) = true ∧ Blk wr w'.heap.size 30 [.int .i64 7, .int .i64 n, .slice ab b.length cb, S, .slice ak ks.length ck, .slice al l.length cl] ∧ Below w'.heap.size w' wr) (fun i _ => ks.length - (intOf i).toNat)
            case atStart => exact ⟨0, Nat.zero_le _, rfl, by rw [List.take_zero]; rfl, B0, hb0⟩
            case round =>
              obtain ⟨j, hj, rfl, hri, BK, hbk⟩ := hrel
              have c0 : wr.cell? ⟨w'.heap.size, 0, none⟩ = some (.int .i64 7) := BK.cell rfl
              have c4 : wr.cell? ⟨w'.heap.size, 4, none⟩ = some (.slice ak ks.length ck) := BK.cell rfl
              by_cases hlt : j < ks.length
              · have hrowk := hks.below (hbw.trans (hbk.mono hbw.size))
                have q1 : wr.cell? ((hd ak).add j) = some (strV ks[j]) := hrowk.cell (by simp [hlt])
                have s1 : ak.isSome = true := hrowk.isSome (i := j) (by simpa using hlt)
                have j0 : (0 : Int) ≤ (j : Int) := by omega
                have j1 : (j : Int) < (ks.length : Int) := by omega
                unfold strV at q1
                by_cases hj0 : j = 0
                · subst hj0
                  have HL := Lib.hid (risesT_one ks)
                  have ib : (1 : Int) ≤ (ks.length : Int) := by omega
                  have q1' : wr.cell? (hd ak) = some (.string (str ks[0])) := by have h := q1; simp only [Addr.add] at h; simpa using h
                  have n0 : (0 : Int) < (ks.length : Int) := by omega
                  generalize ks[0] = x at *
                  clear hri
                  go_wp2
                  first
                    | exact ⟨⟨0 + 1, by omega, (by first | rfl | go_num | (congr 1; omega)), HL.out, BK, hbk⟩, by simp [intOf] <;> omega⟩
                    | (refine ⟨?_, by simp [intOf] <;> omega⟩; (repeat apply Exists.intro); exact ⟨⟨0 + 1, by omega, (by first | rfl | go_num | (congr 1; omega)), HL.out, BK, hbk⟩, rfl⟩)
                · obtain ⟨i, rfl⟩ : ∃ i, j = i + 1 := ⟨j - 1, by omega⟩
                  have hil : i < ks.length := by omega
                  have q0 : wr.cell? ((hd ak).add i) = some (strV ks[i]) := hrowk.cell (by simp [hil])
                  unfold strV at q0
                  have HT := Lib.hid (risesT_take ks i hlt)
                  have HN := Lib.hid (fun h => risesT_not (ks := ks) (j := i + 2) h)
                  have HRI := Lib.hid hri
                  have ew : IntKind.i64.wrap (i : Int) = (i : Int) := IntWalk.i64_in _ (by unfold maxLen at hkc; omega)
                  have ew1 : IntKind.i64.wrap ((i : Int) + 1 - 1) = (i : Int) := by rw [IntWalk.i64_in _ (by unfold maxLen at hkc; omega)]; omega
                  have i0 : (0 : Int) ≤ (i : Int) := by omega
                  have i1 : (i : Int) < (ks.length : Int) := by omega
                  have i4 : ((i : Int) + 1).toNat = i + 1 := by omega
                  have i5 : (0 : Int) < (i : Int) + 1 := by omega
                  have i2 : (0 : Int) ≤ (i : Int) + 1 := by omega
                  have i3 : (i : Int) + 1 < (ks.length : Int) := by omega
                  have q1' : wr.cell? ⟨(hd ak).block, (hd ak).off + (i + 1), none⟩ = some (.string (str ks[i + 1])) := by have h := q1; simp only [Addr.add] at h; simpa using h
                  have ib : (i : Int) + 1 + 1 ≤ 9223372036854775807 := by unfold maxLen at hkc; omega
                  have ew2 : IntKind.i64.wrap ((i : Int) + 1 + 1) = (i : Int) + 1 + 1 := IntWalk.i64_in _ (by omega)
                  generalize ks[i] = x at *
                  generalize ks[i + 1] = y at *
                  clear hri
                  have HLE : Hid (leT y x = (Op.bytesLess (str y).toList (str x).toList || (str y).toList == (str x).toList)) := rfl
                  rcases Bool.eq_false_or_eq_true (Op.bytesLess (str y).toList (str x).toList) with hA | hA
                  · have HR := Lib.hid (HMAP.out (fun h => by
                      have h1 := HN.out (by rw [HT.out, HRI.out, HLE.out, hA]; rfl)
                      rw [h1] at h
                      exact absurd h.2 (by decide)))
                    go_wp2
                    go_ret
                    exact ⟨by rw [HR.out]; rfl, hbk⟩
                  · rcases Bool.eq_false_or_eq_true ((str y).toList == (str x).toList) with hB | hB
                    · have HR := Lib.hid (HMAP.out (fun h => by
                        have h1 := HN.out (by rw [HT.out, HRI.out, HLE.out, hA, hB]; rfl)
                        rw [h1] at h
                        exact absurd h.2 (by decide)))
                      go_wp2
                      go_ret
                      exact ⟨by rw [HR.out]; rfl, hbk⟩
                    · have HL : Hid (risesT (ks.take (i + 1 + 1)) = true) := by
                        show _ = _
                        rw [HT.out, HRI.out, HLE.out, hA, hB]; rfl
                      go_wp2
                      first
                        | exact ⟨⟨i + 1 + 1, by omega, (by first | rfl | go_num | (congr 1; omega)), HL.out, BK, hbk⟩, by simp [intOf] <;> omega⟩
                        | (refine ⟨?_, by simp [intOf] <;> omega⟩; (repeat apply Exists.intro); exact ⟨⟨i + 1 + 1, by omega, (by first | rfl | go_num | (congr 1; omega)), HL.out, BK, hbk⟩, rfl⟩)
              · obtain rfl : j = ks.length := by omega
                rw [List.take_length] at hri
                go_wp2
                go_meet
                exact ⟨⟨BK, hbk⟩, fun _ => ⟨HKL.out, hri⟩⟩
          · have t1 : ((ks.length : Int) != (l.length : Int)) = true := by simpa using fun h => hkl (by exact_mod_cast h)
            have HR := Lib.hid (HMAP.out (fun h => hkl h.1))
            clear hkl
            go_wp2
            go_ret
            exact ⟨by rw [HR.out]; rfl, hb0⟩
        · have t1 : (k == 7) = false := beq_eq_false_iff_ne.2 h7
          go_wp2
          go_meet
          exact ⟨⟨B0, hb0⟩, fun h => absurd h h7⟩
      case rest =>
        clear B0 hb0 c0 c4 c5
        obtain ⟨⟨B0, hb0⟩, hmap⟩ := hcut
        have c0 : wc.cell? ⟨w'.heap.size, 0, none⟩ = some (.int .i64 k) := B0.cell rfl
        have c5 : wc.cell? ⟨w'.heap.size, 5, none⟩ = some (.slice al l.length cl) := B0.cell rfl
        by_cases hk6 : 6 ≤ k
        · have HM := Lib.hid (canF_many (d := d) (n := n) (b := b) (t := t) hk6 k7 hmap)
          clear hmap
          go_wp2
          go_loopw [58] (fun i wr => ∃ j : Nat, j ≤ l.length ∧ i = .int .i64 j ∧ (l.take j).all (canF d) = true ∧ Below w'.heap.size w' wr) (fun i _ => l.length - (intOf i).toNat)
          case atStart => exact ⟨0, Nat.zero_le _, rfl, by rw [List.take_zero]; rfl, hb0⟩
          case round =>
            obtain ⟨j, hj, rfl, hri, hb⟩ := hrel
            by_cases hlt : j < l.length
            · have hcj : css[j]? = some (css[j]'(by omega)) := by simp
              have hvj : l[j]? = some l[j] := by simp [hlt]
              have IH := ih j _ _ hcj hvj d
              have hrow := hl.below (hbw.trans (hb.mono hbw.size))
              have s1 := hrow.elemSome (s := 6) h6 (by decide) (i := j) (by omega)
              have q1 := ldOp_at (P := Tryd.prog) (ty := 30) (hrow.elem (s := 6) h6 hcj) Tryd.underlying30 rfl (by rw [h6 _ (List.getElem_mem _)]; exact sizeV)
              have x6 : (css[j]'(by omega)).toArray.size = 6 := by simpa using h6 _ (List.getElem_mem _)
              have xo : OneC (css[j]'(by omega)).toArray := all_oneCell_toArray (sub j _ _ hcj hvj).one
              have HA : Hid ((l.take (j + 1)).all (canF d) = ((l.take j).all (canF d) && canF d l[j])) := by
                show _ = _
                rw [List.take_succ_eq_append_getElem hlt, List.all_append]; simp
              have HN : Hid (canF d l[j] = false → l.all (canF d) = false) := by
                intro h
                rcases Bool.eq_false_or_eq_true (l.all (canF d)) with h2 | h2
                · rw [List.all_eq_true.1 h2 _ (List.getElem_mem hlt)] at h; cases h
                · exact h2
              have HRI := Lib.hid hri
              have zs := zV_size
              have hsz := hb.size
              have j0 : (0 : Int) ≤ (j : Int) := by omega
              have j1 : (j : Int) < (l.length : Int) := by omega
              have jb : (j : Int) + 1 ≤ 9223372036854775807 := by unfold maxLen at hlc; omega
              have ew2 : IntKind.i64.wrap ((j : Int) + 1) = (j : Int) + 1 := IntWalk.i64_in _ (by omega)
              have ew : IntKind.i64.wrap (d : Int) = (d : Int) := IntWalk.i64_in _ (by omega)
              have ew1 : IntKind.i64.wrap ((d : Int) + 1 - 1) = (d : Int) := by rw [IntWalk.i64_in _ (by omega)]; omega
              have hbC : Below w.heap.size w wr := hbw.trans (hb.mono hbw.size)
              generalize css[j]'(by omega) = c at *
              generalize l[j] = v at *
              clear hri hcj hvj hrow
              go_wp2_with fail
              refine (IH _ (by omega) (hbC.alloc hbC.size _)).mono ?_
              rintro e w5 ⟨rfl, hb5⟩
              have hbw5 : Below w'.heap.size w' w5 := (hb.alloc hsz _).trans (hb5.mono (by simp; omega))
              rcases Bool.eq_false_or_eq_true (canF d v) with h | h
              · have HL : Hid ((l.take (j + 1)).all (canF d) = true) := by show _ = _; rw [HA.out, HRI.out, h]; rfl
                rw [h]
                go_wp2
                first
                  | exact ⟨⟨j + 1, by omega, (by first | rfl | go_num | (congr 1; omega)), HL.out, hbw5⟩, by simp [intOf] <;> omega⟩
                  | (refine ⟨?_, by simp [intOf] <;> omega⟩; (repeat apply Exists.intro); exact ⟨⟨j + 1, by omega, (by first | rfl | go_num | (congr 1; omega)), HL.out, hbw5⟩, rfl⟩)
              · have HR := Lib.hid (HM.out.trans (HN.out h))
                rw [h]
                go_wp2
                go_ret
                exact ⟨by rw [HR.out]; rfl, hbw5⟩
            · obtain rfl : j = l.length := by omega
              rw [List.take_length] at hri
              go_wp2
              go_ret
              exact ⟨by rw [HM.out, hri]; rfl, hb⟩
        · have HM := Lib.hid (canF_flat (d := d) (n := n) (b := b) (t := t) (ks := ks) (l := l) k0 (by omega))
          have g6 : ¬ 6 ≤ k := hk6
          go_wp2
          go_ret
          exact ⟨by rw [HM.out]; rfl, hb0⟩
  · have HR := Lib.hid (canF_bad (d := d) (n := n) (b := b) (t := t) (ks := ks) (l := l) hr)
    by_cases g0 : k < 0
    · clear hr
      go_wp2
      go_ret
      exact ⟨by rw [HR.out]; rfl, hb0⟩
    · have g7 : 7 < k := by omega
      clear hr
      go_wp2
      go_ret
      exact ⟨by rw [HR.out]; rfl, hb0⟩
end Go.Proofs.YtpchogicdnfggaaDoor
set_option maxRecDepth 20000
namespace Go.Proofs.YtpchogicdnfggaaDoor
open Go.RowKit Go.Hd

/-! What a call that appends to an owned row may change. -/
structure Gro (w w' : World) (v u : Value) : Prop where
  gr : w.grownBy w' v.ownBlock
  own : ∀ k, u.ownBlock = some k → v.ownBlock = some k ∨ w.heap.size ≤ k
theorem Gro.trans {a b c : World} {v u x : Value} (h : Gro a b v u) (k : Gro b c u x) : Gro a c v x := by
  refine ⟨⟨k.gr.os.trans h.gr.os, k.gr.tape.trans h.gr.tape, k.gr.output.trans h.gr.output, Nat.le_trans h.gr.size k.gr.size, fun i hi hne => ?_⟩, fun i hi => ?_⟩
  · rw [k.gr.block i (Nat.lt_of_lt_of_le hi h.gr.size) (fun e => ?_), h.gr.block i hi hne]
    rcases h.own i e.symm with h1 | h1
    · exact hne h1.symm
    · omega
  · rcases k.own i hi with h1 | h1
    · exact h.own i h1
    · exact .inr (Nat.le_trans h.gr.size h1)
theorem Gro.ofBelow {a b : World} {v : Value} (h : Below a.heap.size a b) : Gro a b v v := ⟨grownBy_below h, fun _ h => .inl h⟩
theorem Gro.size {a b : World} {v u : Value} (h : Gro a b v u) : a.heap.size ≤ b.heap.size := h.gr.size
/-- Old memory is as it was. -/
theorem Gro.below {w w' : World} {v u : Value} {base old : Nat} (h : Gro w w' v u) (hv : ∀ k, v.ownBlock = some k → base ≤ k) (hob : old ≤ base) (ho : old ≤ w.heap.size) : Below old w w' :=
  ⟨h.gr.os, h.gr.tape, h.gr.output, h.gr.size, fun i hi => h.gr.block i (by omega) (fun e => by have := hv i e.symm; omega)⟩
theorem Gro.blk {w w' : World} {v u : Value} {q : Nat} {T : TypeId} {xs : List Value} (h : Gro w w' v u) (hb : Blk w q T xs) (hq : v.ownBlock ≠ some q) : Blk w' q T xs ∧ u.ownBlock ≠ some q := by
  refine ⟨Blk.keptBy hb h.gr hq, fun e => ?_⟩
  rcases h.own q e with h1 | h1
  · exact hq h1
  · have := hb.lt; omega
theorem owns_rowN {w : World} {base : Nat} {e : TypeId} {v : Value} {n size : Nat} {xs : List Value} (h : w.ownsRow base e size v n xs) (_hs : 0 < size) :
    ∃ a c, v = .slice a n c ∧ n ≤ c ∧ c ≤ maxLen ∧ Row w a xs ∧ (0 < xs.length → v.ownBlock = some (hd a).block ∧ base ≤ (hd a).block ∧ (hd a).block < w.heap.size) := by
  obtain ⟨hl, ⟨rfl, rfl⟩ | ⟨g, c, cur, rfl, hg, hb, hn, hm, hy, ht⟩⟩ := h
  · obtain rfl : xs = [] := List.eq_nil_of_length_eq_zero (by simpa using hl)
    exact ⟨none, 0, rfl, Nat.le_refl _, Nat.zero_le _, Row.nil _ _, fun h => by simp at h⟩
  · have hB : Blk w g e cur.toList := by unfold Blk; simpa using hb
    refine ⟨_, c, rfl, hn, hm, ?_, fun _ => ⟨rfl, hg, hB.lt⟩⟩
    rw [← ht]; exact hB.row.take _
theorem own_app1 {t ty e : TypeId} {z : Value} {bytes : Nat} (E : Elem Tryd.prog t e z 1 bytes) {w : World} {base : Nat} {v : Value} {n : Nat} {xs : List Value} (hown : w.ownsRow base e 1 v n xs)
    (x : Value) (hx : x.oneCell' = true) (h63 : n + 1 ≤ maxLen) (hbytes : (n + 1) * bytes ≤ 140737488355328) (hbase : base ≤ w.heap.size) :
    ∃ a' c' w', (Builtin.append_ #[t, t] ty #[v, .slice (some ⟨w.heap.size, 0, none⟩) 1 1]).run Tryd.prog (w.alloc (.cells #[x] e)) = .ok (.slice a' (n + 1) c') w' ∧ w'.ownsRow base e 1 (.slice a' (n + 1) c') (n + 1) (xs ++ [x]) ∧ Gro w w' v (.slice a' (n + 1) c') := by
  have hsrc : Src Tryd.prog 1 t (.slice (some ⟨w.heap.size, 0, none⟩) 1 1) 1 [x] (w.alloc (.cells #[x] e)) :=
    Src.ofRow E.ht _ 1 1 [x] (by decide) rfl (Blk.new w e #[x]).row (fun u hu => by simp at hu; subst hu; exact hx)
  obtain ⟨v', w', h1, h2, h3, h4⟩ := append_srcK (ty := ty) E (hown.alloc _) hsrc h63 hbytes (by simp; omega)
  obtain ⟨a', c', rfl, _⟩ := owns_rowN h2 (by decide)
  have hb0 : Below w.heap.size w (w.alloc (.cells #[x] e)) := (Below.refl _ _).alloc (Nat.le_refl _) _
  exact ⟨a', c', w', h1, h2, (Gro.ofBelow hb0).trans ⟨h3, h4⟩⟩
theorem eS : Elem Tryd.prog 27 9 (.string .empty) 1 16 := ⟨by kernel_rfl, by kernel_rfl, rfl, by decide⟩
/-- A slice of texts of the call's own. -/
abbrev KsAt (base : Nat) (w : World) (u : Value) (ks : List (List UInt8)) : Prop := w.ownsRow base 9 1 u ks.length (ks.map strV)
theorem str_take (l : List UInt8) (n : Nat) : (str l).extract 0 n = str (l.take n) := by
  apply ByteArray.ext
  simp [str, ByteArray.data_extract, List.extract_toArray, List.extract_eq_take_drop]
theorem short_any (l : List UInt8) (n : Nat) (w : World) (h : n ≤ 1000000) : Calls Tryd.prog 24 #[.string (str l), .int .i64 (n : Int)] w fun e w' => e = .returned (.string (str (l.take n))) ∧ w = w' := by
  have hs : (str l).size = l.length := str_size l
  by_cases hlt : n < l.length
  · have h1 : (n : Int) < (l.length : Int) := by omega
    have HT := Lib.hid (str_take l n)
    have n0 : (0 : Int) ≤ (n : Int) := by omega
    have n1 : (n : Int) ≤ (l.length : Int) := by omega
    go_enter Tryd.func24, Tryd.ntmps24
    go_wp2
    go_ret
    refine ⟨?_, rfl⟩
    rw [← HT.out]
    rfl
  · have h1 : ¬ (n : Int) < (l.length : Int) := by omega
    have HT : Hid (l.take n = l) := List.take_of_length_le (by omega)
    go_enter Tryd.func24, Tryd.ntmps24
    go_wp2
    go_ret
    refine ⟨?_, rfl⟩
    rw [HT.out]
    rfl
end Go.Proofs.YtpchogicdnfggaaDoor
set_option maxRecDepth 20000
namespace Go.Hd
open Go Go.RowKit
/-- An archive, a part, as they are. -/
structure Abt where
  name : List UInt8
  id : List UInt8
  time : Int
  comment : List UInt8
  items : Int
  bytes : Int
structure Prt where
  id : List UInt8
  size : Int
def prtC (p : Prt) : List Value := p.id.map b8 ++ [.int .i64 p.size]
structure AbtOk (x : Abt) : Prop where
  id : x.id.length = 32
  time : in64 x.time
  items : in64 x.items
  bytes : in64 x.bytes
  name : x.name.length ≤ maxLen
  comment : x.comment.length ≤ maxLen
structure PrtOk (p : Prt) : Prop where
  id : p.id.length = 32
  size : in64 p.size
theorem prtC_len {p : Prt} (h : PrtOk p) : (prtC p).length = 33 := by simp [prtC, h.id]
theorem b8_one (l : List UInt8) : ∀ v ∈ l.map b8, v.oneCell' = true := by
  intro v hv
  obtain ⟨c, _, rfl⟩ := List.mem_map.1 hv
  rfl
theorem prtC_one (p : Prt) : ∀ v ∈ prtC p, v.oneCell' = true := by
  intro v hv
  unfold prtC at hv
  rcases List.mem_append.1 hv with hv | hv
  · exact b8_one _ v hv
  · simp only [List.mem_cons, List.not_mem_nil, or_false] at hv
    subst hv; rfl
theorem prtC_32 {p : Prt} (h : PrtOk p) : (prtC p)[32]? = some (.int .i64 p.size) := by
  unfold prtC; rw [List.getElem?_append_right (by rw [List.length_map, h.id]; omega), List.length_map, h.id]; rfl
end Go.Hd
namespace Go.Proofs.YtpchogicdnfggaaDoor
open Go.RowKit Go.Hd

section
variable (ρ : Operand → Value) (dst : Option Tmp) (ty : TypeId) (pos : String) (after : Array Edge) (guard : Option (Nat × Bool))
theorem h_ldID (x : Operand) : execOp ρ { dst, op := .load 63 x, type := ty, pos, after, guard } = (do pure (.value (← ldOp 63 (ρ x)))) := rfl
theorem h_stID (x y : Operand) : execOp ρ { dst, op := .store 63 x y, type := ty, pos, after, guard } = (do stoOp 63 (ρ x) (ρ y); pure .skip) := rfl
theorem h_alID : execOp ρ { dst, op := .alloc 63, type := ty, pos, after, guard } = (do pure (.value (← alOp 63))) := rfl
theorem h_ldPA (x : Operand) : execOp ρ { dst, op := .load 65 x, type := ty, pos, after, guard } = (do pure (.value (← ldOp 65 (ρ x)))) := rfl
theorem h_stPA (x y : Operand) : execOp ρ { dst, op := .store 65 x y, type := ty, pos, after, guard } = (do stoOp 65 (ρ x) (ρ y); pure .skip) := rfl
theorem h_alPA : execOp ρ { dst, op := .alloc 65, type := ty, pos, after, guard } = (do pure (.value (← alOp 65))) := rfl
theorem h_bdPA (parts : Array (Nat × Operand)) : execOp ρ { dst, op := .build 65 parts, type := ty, pos, after, guard } = (do pure (.value (← bdOp 65 (parts.map fun (i, x) => (i, ρ x))))) := rfl
theorem h_bsPA (n : Nat) (parts : Array (Nat × Operand)) : execOp ρ { dst, op := .buildSlice 22 n parts, type := ty, pos, after, guard } = (do pure (.value (← bsOp 22 n (parts.map fun (i, x) => (i, ρ x))))) := rfl
theorem h_nqPA (x y : Operand) (t : TypeId) : execOp ρ { dst, op := .binOp .neq 65 x y t, type := ty, pos, after, guard } = (do pure (.value (← nqOp 65 x y (ρ x) (ρ y)))) := rfl
theorem h_ap (x : Operand) : execOp ρ { dst, op := .sliceToArrayPointer 63 x, type := ty, pos, after, guard } = (do pure (.value (← apOp 63 (ρ x)))) := rfl
end
def zID : Array Value := List.toArray (α := Value) (List.replicate 32 (.int .u8 0))
theorem infoID : (Tryd.prog.info? 63).map (fun i => (i.zero, i.size)) = some (some (.agg zID), 32) := by kernel_rfl
theorem sizeID : (Tryd.prog.info? 63).map (·.size) = some 32 := (zero_of_info infoID).2
theorem zeroID : (Tryd.prog.info? 63).bind (·.zero) = some (.agg zID) := by kernel_rfl
theorem r_ldID {w : World} {b : Nat} {cs : Array Value} {T : TypeId} (hb : w.heap.size = b) (hs : cs.size = 32) : (ldOp 63 (.pointer (some ⟨b, 0, none⟩))).run Tryd.prog (w.alloc (.cells cs T)) = .ok (.agg cs) (w.alloc (.cells cs T)) :=
  ldOp_new hb Tryd.underlying63 rfl (by rw [hs]; exact sizeID)
theorem r_stID {w : World} {b : Nat} {old cs : Array Value} {T : TypeId} (hb : w.heap.size = b) (ho : old.size = 32) (hs : cs.size = 32) (h1 : OneC cs) : (stoOp 63 (.pointer (some ⟨b, 0, none⟩)) (.agg cs)).run Tryd.prog (w.alloc (.cells old T)) = .ok () (w.alloc (.cells cs T)) :=
  stOp_new hb (by rw [hs]; exact sizeID) (by rw [ho, hs]) h1
theorem r_alID {w : World} : (alOp 63).run Tryd.prog w = .ok (.pointer (some ⟨w.heap.size, 0, none⟩)) (w.alloc (.cells zID 63)) := alOp_run zeroID
def zPA : Array Value := List.toArray (α := Value) (List.replicate 32 (.int .u8 0) ++ [.int .i64 0])
theorem zPA_size : zPA.size = 33 := by rfl
theorem zPA_one : OneC zPA := by unfold OneC; decide +kernel
theorem infoPA : (Tryd.prog.info? 65).map (fun i => (i.zero, i.size)) = some (some (.agg zPA), 33) := by kernel_rfl
theorem sizePA : (Tryd.prog.info? 65).map (·.size) = some 33 := (zero_of_info infoPA).2
theorem zeroPA : (Tryd.prog.info? 65).bind (·.zero) = some (.agg zPA) := by kernel_rfl
theorem r_ldPA {w : World} {b : Nat} {cs : Array Value} {T : TypeId} (hb : w.heap.size = b) (hs : cs.size = 33) : (ldOp 65 (.pointer (some ⟨b, 0, none⟩))).run Tryd.prog (w.alloc (.cells cs T)) = .ok (.agg cs) (w.alloc (.cells cs T)) :=
  ldOp_new hb Tryd.underlying65 rfl (by rw [hs]; exact sizePA)
theorem r_stPA {w : World} {b : Nat} {old cs : Array Value} {T : TypeId} (hb : w.heap.size = b) (ho : old.size = 33) (hs : cs.size = 33) (h1 : OneC cs) : (stoOp 65 (.pointer (some ⟨b, 0, none⟩)) (.agg cs)).run Tryd.prog (w.alloc (.cells old T)) = .ok () (w.alloc (.cells cs T)) :=
  stOp_new hb (by rw [hs]; exact sizePA) (by rw [ho, hs]) h1
theorem r_alPA {w : World} : (alOp 65).run Tryd.prog w = .ok (.pointer (some ⟨w.heap.size, 0, none⟩)) (w.alloc (.cells zPA 65)) := alOp_run zeroPA
theorem r_bsPA {w : World} {cs : Array Value} (hs : cs.size = 33) : (bsOp 22 1 #[(0, .agg cs)]).run Tryd.prog w = .ok (.slice (some ⟨w.heap.size, 0, none⟩) 1 1) (w.alloc (.cells cs 65)) :=
  bsOp_one Tryd.underlying22 infoPA (by decide) (by decide) (by exact zPA_size) hs
theorem ePA : Elem Tryd.prog 22 65 (.agg zPA) 33 40 := ⟨by kernel_rfl, by kernel_rfl, rfl, by decide⟩
theorem r_ap {w : World} {a : Addr} {c : Nat} : (apOp 63 (.slice (some a) 32 c)).run Tryd.prog w = .ok (.pointer (some a)) w := apOp_run Tryd.underlying63 (Nat.le_refl _)
end Go.Proofs.YtpchogicdnfggaaDoor
namespace Go.Proofs
open Go.Shelf
def Tryd.lays219_ren : Go.Shelf.Ren := ⟨fun | 219 => 106 | 217 => 122 | 225 => 123 | 224 => 124 | 267 => 125 | 266 => 130 | 314 => 131 | n => n, fun | 9 => 9 | 3 => 3 | 4 => 4 | 5 => 5 | 46 => 122 | 146 => 160 | 51 => 159 | n => n, fun | 1 => 0 | n => n⟩
theorem Tryd.lays219 : Go.Proofs.Lays.n219 Tryd.prog Tryd.lays219_ren := {
  mixed := by kernel_rfl
  f217 := Tryd.func122.trans (congrArg some (by kernel_rfl))
  f219 := Tryd.func106.trans (congrArg some (by kernel_rfl))
  f224 := Tryd.func124.trans (congrArg some (by kernel_rfl))
  f225 := Tryd.func123.trans (congrArg some (by kernel_rfl))
  f266 := Tryd.func130.trans (congrArg some (by kernel_rfl))
  f267 := Tryd.func125.trans (congrArg some (by kernel_rfl))
  f314 := Tryd.func131.trans (congrArg some (by kernel_rfl))
  t3 := Tryd.underlying3
  a3 := Tryd.isAgg3
  z3 := Tryd.sizeOf3
  v3 := Tryd.zeroValue3
  t4 := Tryd.underlying4
  a4 := Tryd.isAgg4
  z4 := Tryd.sizeOf4
  v4 := Tryd.zeroValue4
  t5 := Tryd.underlying5
  a5 := Tryd.isAgg5
  z5 := Tryd.sizeOf5
  v5 := Tryd.zeroValue5
  t9 := Tryd.underlying9
  a9 := Tryd.isAgg9
  z9 := Tryd.sizeOf9
  v9 := Tryd.zeroValue9
  t46 := Tryd.underlying122
  a46 := Tryd.isAgg122
  z46 := Tryd.sizeOf122
  v46 := Tryd.zeroValue122
  t51 := Tryd.underlying159
  a51 := Tryd.isAgg159
  z51 := Tryd.sizeOf159
  v51 := Tryd.zeroValue159
  t146 := Tryd.underlying160
  a146 := Tryd.isAgg160
  z146 := Tryd.sizeOf160
  v146 := Tryd.zeroValue160
  g1 := by kernel_rfl }
open Go.RowKit Go.Lib in
theorem Tryd.stringslite_Index_one (s : ByteArray) (c : UInt8) (w : World) :
    Calls Tryd.prog 106 #[.string s, .string ⟨#[c]⟩] w fun e w' => e = .returned (.int .i64 (Lib.indexByte s.data.toList c)) ∧ w' = w := Any.stringslite_Index_one Tryd.lays219 s c w
def Tryd.lays143_ren : Go.Shelf.Ren := ⟨fun | 143 => 87 | 219 => 106 | 217 => 122 | 225 => 123 | 224 => 124 | 267 => 125 | 266 => 130 | 314 => 131 | n => n, fun | 9 => 9 | 3 => 3 | 4 => 4 | 5 => 5 | 46 => 122 | 146 => 160 | 51 => 159 | n => n, fun | 1 => 0 | n => n⟩
theorem Tryd.lays143 : Go.Proofs.Lays.n143 Tryd.prog Tryd.lays143_ren := {
  mixed := by kernel_rfl
  f143 := Tryd.func87.trans (congrArg some (by kernel_rfl))
  f217 := Tryd.func122.trans (congrArg some (by kernel_rfl))
  f219 := Tryd.func106.trans (congrArg some (by kernel_rfl))
  f224 := Tryd.func124.trans (congrArg some (by kernel_rfl))
  f225 := Tryd.func123.trans (congrArg some (by kernel_rfl))
  f266 := Tryd.func130.trans (congrArg some (by kernel_rfl))
  f267 := Tryd.func125.trans (congrArg some (by kernel_rfl))
  f314 := Tryd.func131.trans (congrArg some (by kernel_rfl))
  t3 := Tryd.underlying3
  a3 := Tryd.isAgg3
  z3 := Tryd.sizeOf3
  v3 := Tryd.zeroValue3
  t4 := Tryd.underlying4
  a4 := Tryd.isAgg4
  z4 := Tryd.sizeOf4
  v4 := Tryd.zeroValue4
  t5 := Tryd.underlying5
  a5 := Tryd.isAgg5
  z5 := Tryd.sizeOf5
  v5 := Tryd.zeroValue5
  t9 := Tryd.underlying9
  a9 := Tryd.isAgg9
  z9 := Tryd.sizeOf9
  v9 := Tryd.zeroValue9
  t46 := Tryd.underlying122
  a46 := Tryd.isAgg122
  z46 := Tryd.sizeOf122
  v46 := Tryd.zeroValue122
  t51 := Tryd.underlying159
  a51 := Tryd.isAgg159
  z51 := Tryd.sizeOf159
  v51 := Tryd.zeroValue159
  t146 := Tryd.underlying160
  a146 := Tryd.isAgg160
  z146 := Tryd.sizeOf160
  v146 := Tryd.zeroValue160
  g1 := by kernel_rfl }
open Go.RowKit Go.Lib in
theorem Tryd.strings_Index_one (s : ByteArray) (c : UInt8) (w : World) :
    Calls Tryd.prog 87 #[.string s, .string ⟨#[c]⟩] w fun e w' => e = .returned (.int .i64 (Lib.indexByte s.data.toList c)) ∧ w' = w := Any.strings_Index_one Tryd.lays143 s c w
def Tryd.lays144_ren : Go.Shelf.Ren := ⟨fun | 144 => 64 | 143 => 87 | 219 => 106 | 217 => 122 | 225 => 123 | 224 => 124 | 267 => 125 | 266 => 130 | 314 => 131 | n => n, fun | 9 => 9 | 4 => 4 | 3 => 3 | 5 => 5 | 46 => 122 | 146 => 160 | 51 => 159 | n => n, fun | 1 => 0 | n => n⟩
theorem Tryd.lays144 : Go.Proofs.Lays.n144 Tryd.prog Tryd.lays144_ren := {
  mixed := by kernel_rfl
  f143 := Tryd.func87.trans (congrArg some (by kernel_rfl))
  f144 := Tryd.func64.trans (congrArg some (by kernel_rfl))
  f217 := Tryd.func122.trans (congrArg some (by kernel_rfl))
  f219 := Tryd.func106.trans (congrArg some (by kernel_rfl))
  f224 := Tryd.func124.trans (congrArg some (by kernel_rfl))
  f225 := Tryd.func123.trans (congrArg some (by kernel_rfl))
  f266 := Tryd.func130.trans (congrArg some (by kernel_rfl))
  f267 := Tryd.func125.trans (congrArg some (by kernel_rfl))
  f314 := Tryd.func131.trans (congrArg some (by kernel_rfl))
  t3 := Tryd.underlying3
  a3 := Tryd.isAgg3
  z3 := Tryd.sizeOf3
  v3 := Tryd.zeroValue3
  t4 := Tryd.underlying4
  a4 := Tryd.isAgg4
  z4 := Tryd.sizeOf4
  v4 := Tryd.zeroValue4
  t5 := Tryd.underlying5
  a5 := Tryd.isAgg5
  z5 := Tryd.sizeOf5
  v5 := Tryd.zeroValue5
  t9 := Tryd.underlying9
  a9 := Tryd.isAgg9
  z9 := Tryd.sizeOf9
  v9 := Tryd.zeroValue9
  t46 := Tryd.underlying122
  a46 := Tryd.isAgg122
  z46 := Tryd.sizeOf122
  v46 := Tryd.zeroValue122
  t51 := Tryd.underlying159
  a51 := Tryd.isAgg159
  z51 := Tryd.sizeOf159
  v51 := Tryd.zeroValue159
  t146 := Tryd.underlying160
  a146 := Tryd.isAgg160
  z146 := Tryd.sizeOf160
  v146 := Tryd.zeroValue160
  g1 := by kernel_rfl }
open Go.RowKit Go.Lib in
theorem Tryd.strings_Contains_one (s : ByteArray) (c : UInt8) (w : World) :
    Calls Tryd.prog 64 #[.string s, .string ⟨#[c]⟩] w fun e w' => e = .returned (.bool (decide (0 ≤ Lib.indexByte s.data.toList c))) ∧ w' = w := Any.strings_Contains_one Tryd.lays144 s c w
def Tryd.lays138_ren : Go.Shelf.Ren := ⟨fun | 138 => 105 | 195 => 119 | 218 => 121 | 143 => 87 | 219 => 106 | 217 => 122 | 225 => 123 | 224 => 124 | 267 => 125 | 266 => 130 | 314 => 131 | n => n, fun | 9 => 9 | 3 => 3 | 4 => 4 | 5 => 5 | 0 => 0 | 46 => 122 | 146 => 160 | 51 => 159 | n => n, fun | 1 => 0 | n => n⟩
theorem Tryd.lays138 : Go.Proofs.Lays.n138 Tryd.prog Tryd.lays138_ren := {
  mixed := by kernel_rfl
  f138 := Tryd.func105.trans (congrArg some (by kernel_rfl))
  f143 := Tryd.func87.trans (congrArg some (by kernel_rfl))
  f195 := Tryd.func119.trans (congrArg some (by kernel_rfl))
  f217 := Tryd.func122.trans (congrArg some (by kernel_rfl))
  f218 := Tryd.func121.trans (congrArg some (by kernel_rfl))
  f219 := Tryd.func106.trans (congrArg some (by kernel_rfl))
  f224 := Tryd.func124.trans (congrArg some (by kernel_rfl))
  f225 := Tryd.func123.trans (congrArg some (by kernel_rfl))
  f266 := Tryd.func130.trans (congrArg some (by kernel_rfl))
  f267 := Tryd.func125.trans (congrArg some (by kernel_rfl))
  f314 := Tryd.func131.trans (congrArg some (by kernel_rfl))
  t0 := Tryd.underlying0
  a0 := Tryd.isAgg0
  z0 := Tryd.sizeOf0
  v0 := Tryd.zeroValue0
  t3 := Tryd.underlying3
  a3 := Tryd.isAgg3
  z3 := Tryd.sizeOf3
  v3 := Tryd.zeroValue3
  t4 := Tryd.underlying4
  a4 := Tryd.isAgg4
  z4 := Tryd.sizeOf4
  v4 := Tryd.zeroValue4
  t5 := Tryd.underlying5
  a5 := Tryd.isAgg5
  z5 := Tryd.sizeOf5
  v5 := Tryd.zeroValue5
  t9 := Tryd.underlying9
  a9 := Tryd.isAgg9
  z9 := Tryd.sizeOf9
  v9 := Tryd.zeroValue9
  t46 := Tryd.underlying122
  a46 := Tryd.isAgg122
  z46 := Tryd.sizeOf122
  v46 := Tryd.zeroValue122
  t51 := Tryd.underlying159
  a51 := Tryd.isAgg159
  z51 := Tryd.sizeOf159
  v51 := Tryd.zeroValue159
  t146 := Tryd.underlying160
  a146 := Tryd.isAgg160
  z146 := Tryd.sizeOf160
  v146 := Tryd.zeroValue160
  g1 := by kernel_rfl }
open Go.RowKit Go.Lib in
theorem Tryd.strings_Count_one (s : ByteArray) (c : UInt8) (w : World) :
    Calls Tryd.prog 105 #[.string s, .string ⟨#[c]⟩] w fun e w' => e = .returned (.int .i64 (Lib.countByte s.data.toList c)) ∧ w' = w := Any.strings_Count_one Tryd.lays138 s c w
def Tryd.lays221_ren : Go.Shelf.Ren := ⟨fun | 221 => 86 | 268 => 104 | 138 => 105 | 143 => 87 | 195 => 119 | 197 => 120 | 218 => 121 | 219 => 106 | 260 => 129 | 217 => 122 | 225 => 123 | 224 => 124 | 267 => 125 | 266 => 130 | 314 => 131 | n => n, fun | 9 => 9 | 3 => 3 | 31 => 27 | 4 => 4 | 0 => 0 | 105 => 153 | 21 => 21 | 5 => 5 | 46 => 122 | 119 => 162 | 139 => 165 | 138 => 164 | 146 => 160 | 51 => 159 | n => n, fun | 1 => 0 | 3 => 1 | 4 => 2 | n => n⟩
theorem Tryd.lays221 : Go.Proofs.Lays.n221 Tryd.prog Tryd.lays221_ren := {
  mixed := by kernel_rfl
  f138 := Tryd.func105.trans (congrArg some (by kernel_rfl))
  f143 := Tryd.func87.trans (congrArg some (by kernel_rfl))
  f195 := Tryd.func119.trans (congrArg some (by kernel_rfl))
  f197 := Tryd.func120.trans (congrArg some (by kernel_rfl))
  f217 := Tryd.func122.trans (congrArg some (by kernel_rfl))
  f218 := Tryd.func121.trans (congrArg some (by kernel_rfl))
  f219 := Tryd.func106.trans (congrArg some (by kernel_rfl))
  f221 := Tryd.func86.trans (congrArg some (by kernel_rfl))
  f224 := Tryd.func124.trans (congrArg some (by kernel_rfl))
  f225 := Tryd.func123.trans (congrArg some (by kernel_rfl))
  f260 := Tryd.func129.trans (congrArg some (by kernel_rfl))
  f266 := Tryd.func130.trans (congrArg some (by kernel_rfl))
  f267 := Tryd.func125.trans (congrArg some (by kernel_rfl))
  f268 := Tryd.func104.trans (congrArg some (by kernel_rfl))
  f314 := Tryd.func131.trans (congrArg some (by kernel_rfl))
  t0 := Tryd.underlying0
  a0 := Tryd.isAgg0
  z0 := Tryd.sizeOf0
  v0 := Tryd.zeroValue0
  t3 := Tryd.underlying3
  a3 := Tryd.isAgg3
  z3 := Tryd.sizeOf3
  v3 := Tryd.zeroValue3
  t4 := Tryd.underlying4
  a4 := Tryd.isAgg4
  z4 := Tryd.sizeOf4
  v4 := Tryd.zeroValue4
  t5 := Tryd.underlying5
  a5 := Tryd.isAgg5
  z5 := Tryd.sizeOf5
  v5 := Tryd.zeroValue5
  t9 := Tryd.underlying9
  a9 := Tryd.isAgg9
  z9 := Tryd.sizeOf9
  v9 := Tryd.zeroValue9
  t21 := Tryd.underlying21
  a21 := Tryd.isAgg21
  z21 := Tryd.sizeOf21
  v21 := Tryd.zeroValue21
  t31 := Tryd.underlying27
  a31 := Tryd.isAgg27
  z31 := Tryd.sizeOf27
  v31 := Tryd.zeroValue27
  t46 := Tryd.underlying122
  a46 := Tryd.isAgg122
  z46 := Tryd.sizeOf122
  v46 := Tryd.zeroValue122
  t51 := Tryd.underlying159
  a51 := Tryd.isAgg159
  z51 := Tryd.sizeOf159
  v51 := Tryd.zeroValue159
  t105 := Tryd.underlying153
  a105 := Tryd.isAgg153
  z105 := Tryd.sizeOf153
  v105 := Tryd.zeroValue153
  t119 := Tryd.underlying162
  a119 := Tryd.isAgg162
  z119 := Tryd.sizeOf162
  t138 := Tryd.underlying164
  a138 := Tryd.isAgg164
  z138 := Tryd.sizeOf164
  v138 := Tryd.zeroValue164
  t139 := Tryd.underlying165
  a139 := Tryd.isAgg165
  z139 := Tryd.sizeOf165
  v139 := Tryd.zeroValue165
  t146 := Tryd.underlying160
  a146 := Tryd.isAgg160
  z146 := Tryd.sizeOf160
  v146 := Tryd.zeroValue160
  g1 := by kernel_rfl
  g3 := by kernel_rfl
  g4 := by kernel_rfl }
end Go.Proofs
set_option maxRecDepth 20000
namespace Go.Hd
open Go Go.RowKit

/-- A text, cut at each '/'. -/
def cutP : List UInt8 → List (List UInt8)
  | [] => [[]]
  | c :: s => if c = 47 then [] :: cutP s else match cutP s with
    | [] => [[c]]
    | p :: ps => (c :: p) :: ps
theorem cutP_ne (s : List UInt8) : cutP s ≠ [] := by
  cases s with
  | nil => simp [cutP]
  | cons c s =>
    unfold cutP
    split
    · simp
    · split <;> simp
theorem cutP_sep (s : List UInt8) : cutP (47 :: s) = [] :: cutP s := by
  show (if (47 : UInt8) = 47 then [] :: cutP s else _) = _
  rw [if_pos rfl]
theorem cutP_cons {c : UInt8} (h : c ≠ 47) (s : List UInt8) : ∃ p ps, cutP s = p :: ps ∧ cutP (c :: s) = (c :: p) :: ps := by
  have hn := cutP_ne s
  cases hs : cutP s with
  | nil => exact absurd hs hn
  | cons p ps =>
    refine ⟨p, ps, rfl, ?_⟩
    show (if c = 47 then [] :: cutP s else match cutP s with | [] => [[c]] | p :: ps => (c :: p) :: ps) = _
    rw [if_neg h, hs]
theorem cutP_app : ∀ (p s : List UInt8), 47 ∉ p → cutP (p ++ 47 :: s) = p :: cutP s
  | [], s, _ => cutP_sep s
  | c :: p, s, h => by
    have hc : c ≠ 47 := fun e => h (by rw [e]; simp)
    obtain ⟨q, qs, h1, h2⟩ := cutP_cons hc (p ++ 47 :: s)
    rw [cutP_app p s (fun e => h (List.mem_cons_of_mem _ e))] at h1
    injection h1 with h1 h3
    rw [List.cons_append, h2, ← h1, ← h3]
theorem cutP_one : ∀ (p : List UInt8), 47 ∉ p → cutP p = [p]
  | [], _ => rfl
  | c :: p, h => by
    have hc : c ≠ 47 := fun e => h (by rw [e]; simp)
    obtain ⟨q, qs, h1, h2⟩ := cutP_cons hc p
    rw [cutP_one p (fun e => h (List.mem_cons_of_mem _ e))] at h1
    injection h1 with h1 h3
    rw [h2, ← h1, ← h3]
/-- A part. -/
def partB (p : List UInt8) : Bool := p != [] && decide (p.length ≤ 60) && p != [46] && p != [46, 46] && !p.contains 0 && !p.contains 47
def checkF (s : List UInt8) : Int := if 200 < s.length then 8 else if (cutP s).all partB then 0 else 8
/-! The order. -/
/-- Piece by piece. -/
def lessL : List (List UInt8) → List (List UInt8) → Bool
  | _, [] => false
  | [], _ :: _ => true
  | x :: a, y :: b => if x = y then lessL a b else Op.bytesLess x y
def lessF (a b : List UInt8) : Bool := lessL (cutP a) (cutP b)
end Go.Hd
