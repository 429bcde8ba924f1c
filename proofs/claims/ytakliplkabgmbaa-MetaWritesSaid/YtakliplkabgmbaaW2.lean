/- Walks over rows of bytes: what each function of layer 1 and of its answer hands back. -/
import Derived.Test.YtakliplkabgmbaaRows
import Derived.Test.YtakliplkabgmbaaLib
import Derived.Test.YtakliplkabgmbaaPl1
set_option maxRecDepth 20000
namespace Go.Proofs.Ytakliplkabgmbaa
open Go.RowKit Go.Hd

theorem eB : Elem Try.prog 35 5 (.int .u8 0) 1 1 := ⟨by kernel_rfl, by kernel_rfl, rfl, by decide⟩

/-- v is the call's own, holds l; what was there is as it was. -/
def Fresh (w w' : World) (v : Value) (l : List UInt8) : Prop := w'.ownsRow w.heap.size 5 1 v l.length (l.map b8) ∧ Below w.heap.size w w'

theorem same_any {a b : Option Addr} {n1 n2 c d : Nat} {l m : List UInt8} {w : World} (h1 : n1 = l.length) (h2 : n2 = m.length) (hl : Row w a (l.map b8)) (hm : Row w b (m.map b8)) (hc : l.length ≤ maxLen) :
    Calls Try.prog 18 #[.slice a n1 c, .slice b n2 d] w fun e w' => e = .returned (.bool (l == m)) ∧ ∃ n, w' = w.drewN n := by
  subst h1 h2
  unfold maxLen at hc
  by_cases hlen : l.length = m.length
  · have hne : ((l.length : Int) != (m.length : Int)) = false := by simp [hlen]
    have HL := Lib.hid hlen
    have hle : l.length ≤ m.length := by omega
    clear hlen
    go_enter Try.func18, Try.ntmps18
    go_wp2
    go_loopw [5] (fun i w' => ∃ k : Nat, k ≤ l.length ∧ i = .int .i64 k ∧ l.take k = m.take k ∧ ∃ n, w' = w.drewN n) (fun i _ => l.length - (intOf i).toNat)
    case atStart => exact ⟨0, Nat.zero_le _, rfl, rfl, 0, rfl⟩
    case round =>
      obtain ⟨k, hk, rfl, htake, n, rfl⟩ := hrel
      have HT := Lib.hid htake
      clear htake
      by_cases hlt : k < l.length
      · have hlt2 : k < m.length := by omega
        have c1 := hl.byte hlt
        have c2 := hm.byte hlt2
        have s1 := hl.byteSome hlt
        have s2 := hm.byteSome hlt2
        go_wp2
        go_quiet (fail)
        go_wp2
        · go_ret
          refine ⟨ret_bool ?_, n + nq, by first | rfl | rw [drewN_two]⟩
          rename_i hx
          have h1 : l[k].toNat ≠ m[k].toNat := by have h := hx; simp at h; omega
          refine (beq_eq_false_iff_ne.2 ?_).symm
          intro e
          exact h1 (by simp [e])
        · rename_i hx
          have h1 : l[k] = m[k] := UInt8.toNat_inj.1 (by have h := hx; simp at h; omega)
          have HK : Hid (l.take (k + 1) = m.take (k + 1)) := by
            show _ = _
            rw [List.take_succ_eq_append_getElem hlt, List.take_succ_eq_append_getElem hlt2, HT.out, h1]
          clear h1 hx
          go_roundw
          case rel => exact ⟨k + 1, by omega, by go_num, HK.out, n + nq, by first | rfl | rw [drewN_two]⟩
          case measure => simp [intOf]; omega
      · go_wp2
        go_ret
        refine ⟨ret_bool ?_, n, rfl⟩
        have := HL.out
        have h2 := HT.out
        rw [List.take_of_length_le (by omega), List.take_of_length_le (by omega)] at h2
        simp [h2]
  · have hne : ((l.length : Int) != (m.length : Int)) = true := by simp; omega
    have hle : (l == m) = false := by simp; intro h; exact hlen (by rw [h])
    rw [hle]
    have HL := Lib.hid hlen
    clear hlen hle
    go_enter Try.func18, Try.ntmps18
    go_wp2
    go_ret
    exact ⟨rfl, 0, rfl⟩

theorem rput_any (x : Nat) (n : Int) (w : World) (hx : x < 18446744073709551616) (h1 : 1 ≤ n) (h8 : n ≤ 8) :
    Calls Try.prog 101 #[.int .u64 x, .int .i64 n] w fun e w' => ∃ v, e = .returned v ∧ Fresh w w' v (putL x n.toNat) := by
  go_enter Try.func101, Try.ntmps101
  go_wp2
  go_loopw [0, 5, 6] (fun y b i w' => ∃ k q : Nat, (k : Int) ≤ n ∧ i = .int .i64 k ∧ q < 18446744073709551616 ∧ q = x / 256 ^ k ∧ y = .int .u64 q ∧ w'.ownsRow w.heap.size 5 1 b (putL x k).length ((putL x k).map b8) ∧ Below w.heap.size w w') (fun _ _ i _ => n.toNat - (intOf i).toNat)
  case atStart => exact ⟨0, x, by omega, rfl, hx, by simp, rfl, World.ownsRow_nil _ _ _ _, Below.refl _ _⟩
  case round =>
    obtain ⟨k, q, hk, rfl, hq, hqe, rfl, hown, hb⟩ := hrel
    have HQ := Lib.hid hqe
    clear hqe
    by_cases hlt : (k : Int) < n
    · rw [putL_length] at hown
      have hsz := hb.size
      obtain ⟨v', w1, hrun, hown1, hg1⟩ := append_one (ty := 35) eB hown (.int .u8 ((q : Int) % 256)) rfl (by unfold maxLen; omega) (by omega) hsz
      have hb1 := hb.trans (Below.ofGrown hg1 hown hsz)
      have HO : Hid (w1.ownsRow w.heap.size 5 1 v' (putL x (k + 1)).length ((putL x (k + 1)).map b8)) := by
        show w1.ownsRow _ _ _ _ _ _
        have e1 : (q : Int) % 256 = ((UInt8.ofNat q).toNat : Int) := by simp
        rw [putL_length]
        simp only [putL, List.map_append, List.map_cons, List.map_nil, ← HQ.out]
        rw [e1] at hown1; exact hown1
      clear hown hown1 hg1 hsz
      go_wp2_with (at_builtin; refine wpList_append_run hrun rfl rfl rfl rfl ?_)
      go_roundw
      case rel => exact ⟨k + 1, q / 256, by omega, by go_num, by omega, by rw [HQ.out, Nat.div_div_eq_div_mul, Nat.pow_succ], by simp, HO.out, hb1⟩
      case measure => simp [intOf]; omega
    · obtain rfl : n = k := by omega
      go_wp2
      go_ret
      exact ⟨_, rfl, hown, hb⟩

theorem rput_none (x : Int) (n : Int) (w : World) (h : n < 1 ∨ 8 < n) :
    Calls Try.prog 101 #[.int .u64 x, .int .i64 n] w fun e w' => e = .returned (.slice none 0 0) ∧ w = w' := by
  rcases h with h | h
  · go_enter Try.func101, Try.ntmps101
    go_wp2
    go_ret
    exact ⟨rfl, rfl⟩
  · have h' : ¬ n < 1 := by omega
    go_enter Try.func101, Try.ntmps101
    go_wp2
    go_ret
    exact ⟨rfl, rfl⟩
theorem put_none (x : Int) (n : Int) (w : World) (h : n < 1 ∨ 8 < n) :
    Calls Try.prog 103 #[.int .u64 x, .int .i64 n] w fun e w' => e = .returned (.slice none 0 0) ∧ w = w' := by
  rcases h with h | h
  · go_enter Try.func103, Try.ntmps103
    go_wp2
    go_ret
    exact ⟨rfl, rfl⟩
  · have h' : ¬ n < 1 := by omega
    go_enter Try.func103, Try.ntmps103
    go_wp2
    go_ret
    exact ⟨rfl, rfl⟩

set_option maxRecDepth 20000 in
theorem put_any (x : Nat) (n : Nat) (w : World) (_hx : x < 18446744073709551616) (h1 : 1 ≤ n) (h8 : n ≤ 8) :
    Calls Try.prog 103 #[.int .u64 x, .int .i64 n] w fun e w' => ∃ v, e = .returned v ∧ Fresh w w' v (putL x n) := by
  obtain ⟨i0, hi, hz0, hz1, hz2⟩ := info_parts eB.hi
  have hmk := run_make (P := Try.prog) w 35 5 i0 (.int .u8 0) eB.ht hi hz0 .i64 .i64 n n (by omega) (Int.le_refl _) (by rw [hz2]; omega) (by omega)
  rw [hz1] at hmk
  simp only [Int.toNat_natCast, Nat.mul_one] at hmk
  have hm0 := toList_madeCells_one (.int .u8 0) n
  have hB : Blk (w.alloc (.cells (madeCells #[.int .u8 0] n) 5)) w.heap.size 5 (List.replicate n (.int .u8 0)) := by rw [← hm0]; exact Blk.new _ _ _
  have hb0 : Below w.heap.size w (w.alloc (.cells (madeCells #[.int .u8 0] n) 5)) := (Below.refl _ _).alloc (Nat.le_refl _) _
  clear hm0
  have HB := Lib.hid hB
  clear hB
  go_enter Try.func103, Try.ntmps103
  go_wp2
  go_loopw [17] (fun i w' => ∃ k : Nat, k ≤ n ∧ i = .int .i64 k ∧ Blk w' w.heap.size 5 ((putL x k).map b8 ++ List.replicate (n - k) (.int .u8 0)) ∧ Below w.heap.size w w') (fun i _ => n - (intOf i).toNat)
  case atStart => exact ⟨0, Nat.zero_le _, rfl, by simpa [putL] using HB.out, hb0⟩
  case round =>
    obtain ⟨k, hk, rfl, hB, hb⟩ := hrel
    by_cases hlt : k < n
    · have hc : wr.cell? ⟨w.heap.size, k, none⟩ = some (.int .u8 0) := hB.cell (by rw [List.getElem?_append_right (by simp)]; simp [List.getElem?_replicate]; omega)
      have hf := hB.free k
      have HS : Hid (Blk (wr.setCell ⟨w.heap.size, k, none⟩ (.int .u8 (((x : Int) / 2 ^ (8 * k)) % 256))) w.heap.size 5 ((putL x (k + 1)).map b8 ++ List.replicate (n - (k + 1)) (.int .u8 0))) := by
        have h := hB.set k (.int .u8 (((x : Int) / 2 ^ (8 * k)) % 256))
        rw [show n - k = (n - (k + 1)) + 1 by omega, set_next _ _ _ k _ (by simp)] at h
        rw [byte_shr] at h ⊢
        simp only [putL, List.map_append, List.map_cons, List.map_nil]
        exact h
      have hb1 := hb.setCell (p := ⟨w.heap.size, k, none⟩) (Nat.le_refl _) (.int .u8 (((x : Int) / 2 ^ (8 * k)) % 256))
      clear hB
      go_wp2
      first
        | exact ⟨⟨k + 1, by omega, by go_num, HS.out, hb1⟩, by simp [intOf] <;> omega⟩
        | (refine ⟨?_, by simp [intOf] <;> omega⟩; (repeat apply Exists.intro); exact ⟨⟨k + 1, by omega, by go_num, HS.out, hb1⟩, rfl⟩)
    · obtain rfl : k = n := by omega
      go_wp2
      go_ret
      have h := hB.owns (base := w.heap.size) (n := k) (c := k) (Nat.le_refl _) (Nat.le_refl _) (by simp) (by unfold maxLen; omega)
      refine ⟨_, rfl, ?_, hb⟩
      have e : ((putL x k).map b8).take k = (putL x k).map b8 := List.take_of_length_le (by simp)
      rw [putL_length]
      simp only [Nat.sub_self, List.replicate_zero, List.append_nil, e] at h
      exact h

theorem grown_set {w wr : World} {g : Nat} (h : w.grownBy wr (some g)) (i : Nat) (u : Value) : w.grownBy (wr.setCell ⟨g, i, none⟩ u) (some g) :=
  ⟨h.os, h.tape, h.output, by simpa [World.setCell] using h.size, fun k hk hne => by rw [Below.heap_setCell _ _ _ _ (fun e => hne (by simp only at e; rw [e]))]; exact h.block k hk hne⟩

theorem rev_any (g n c : Nat) (l : List UInt8) (rest : List Value) (w : World) (hB : Blk w g 5 (l.map b8 ++ rest)) (h1 : 1 ≤ n) (hn : n = l.length) (hm : l.length ≤ maxLen) :
    Calls Try.prog 104 #[.slice (some ⟨g, 0, none⟩) n c] w fun e w' => e = .returned (.tuple #[]) ∧ Blk w' g 5 (l.reverse.map b8 ++ rest) ∧ w.grownBy w' (some g) := by
  unfold maxLen at hm
  have HB := Lib.hid hB
  have HN := Lib.hid hn
  have hnm : n ≤ 2 ^ 63 - 1 := by omega
  clear hB hn hm
  go_enter Try.func104, Try.ntmps104
  go_wp2
  go_loopw [2, 3] (fun i j w' => ∃ (i0 j0 : Nat) (m : List UInt8), i0 + j0 + 1 = n ∧ i = .int .i64 i0 ∧ j = .int .i64 j0 ∧ RevAt l m n i0 j0 ∧ Blk w' g 5 (m.map b8 ++ rest) ∧ w.grownBy w' (some g)) (fun i _ _ => n - (intOf i).toNat)
  case atStart => exact ⟨0, n - 1, l, by omega, rfl, by congr 1; omega, RevAt.start l n, HB.out, World.grownBy.refl _ _⟩
  case round =>
    obtain ⟨i, j, m, hij, rfl, rfl, hr, hB, hg⟩ := hrel
    have HIJ := Lib.hid hij
    have hj : (j : Int) ≤ n := by omega
    have hjn : j < n := by omega
    have hin : i < n := by omega
    have hin2 : (i : Int) < n := by omega
    have hjn2 : (j : Int) < n := by omega
    have hml := hr.1
    have hn := HN.out
    by_cases hlt : i < j
    · have hmi : i < m.length := by omega
      have hmj : j < m.length := by omega
      have c1 := hB.byteL hmi
      have c2 := hB.byteL hmj
      have f1 := hB.free i
      have f2 := hB.free j
      have HS : Hid (Blk (((wr.setCell ⟨g, i, none⟩ (b8 m[j])).setCell ⟨g, j, none⟩ (b8 m[i])).drew) g 5 (((m.set i m[j]).set j m[i]).map b8 ++ rest)) :=
        ((hB.setL hmi m[j]).setL (by simpa using hmj) m[i]).drew
      have HG : Hid (w.grownBy (((wr.setCell ⟨g, i, none⟩ (b8 m[j])).setCell ⟨g, j, none⟩ (b8 m[i])).drew) (some g)) := grownBy_drew (grown_set (grown_set hg _ _) _ _)
      have HR : RevAt l ((m.set i m[j]).set j m[i]) n (i + 1) (j - 1) := hr.step (by omega) hij hlt
      have hlt2 : (i : Int) < j := by omega
      clear hij hml hB hg hr hn
      go_wp2
      go_region
      go_wp2
      have := HIJ.out
      first
        | exact ⟨⟨i + 1, j - 1, _, by omega, by go_num, by congr 1; omega, HR, HS.out, HG.out⟩, by simp [intOf] <;> omega⟩
        | (refine ⟨?_, by simp [intOf] <;> omega⟩; (repeat apply Exists.intro); exact ⟨⟨i + 1, j - 1, _, by omega, by go_num, by congr 1; omega, HR, HS.out, HG.out⟩, rfl⟩)
    · clear hn
      go_wp2
      go_end0
      refine ⟨rfl, ?_, hg⟩
      have hn := HN.out
      subst hn
      rw [← hr.whole hij hlt]
      exact hB
theorem rev_nil (a : Option Addr) (c : Nat) (w : World) :
    Calls Try.prog 104 #[.slice a 0 c] w fun e w' => e = .returned (.tuple #[]) ∧ w = w' := by
  go_enter Try.func104, Try.ntmps104
  go_wp2
  go_loop [2, 3] (fun i j => i = .int .i64 0 ∧ j = .int .i64 (-1)) (fun _ _ => 0)
  case atStart => exact ⟨rfl, rfl⟩
  case round =>
    obtain ⟨rfl, rfl⟩ := hrel
    go_wp2
    go_end0
    exact ⟨rfl, rfl⟩
theorem Fresh.open {w w' : World} {v : Value} {l : List UInt8} (h : Fresh w w' v l) : ∃ a c, v = .slice a l.length c ∧ Row w' a (l.map b8) ∧ Below w.heap.size w w' ∧ l.length ≤ maxLen ∧ l.length ≤ c := by
  obtain ⟨a, c, hv, h1, h2, h3⟩ := owns_row h.1
  exact ⟨a, c, hv, h3, h.2, by omega, h1⟩
end Go.Proofs.Ytakliplkabgmbaa
