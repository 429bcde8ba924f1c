/- Joined: what one statement of this layer stands on, part 2 of 25; nothing is assumed. -/
import Derived.Test.YtakliplkabgmbaaRows
import Derived.Deep.CutBlock
import Derived.Deep.DeepCutAuto
import Derived.Test.YtakliplkabgmbaaKR1
set_option maxRecDepth 20000
namespace Go.Proofs.Ytakliplkabgmbaa
open Go.RowKit Go.Hd
theorem eB : Elem Try.prog 35 5 (.int .u8 0) 1 1 := ⟨by kernel_rfl, by kernel_rfl, rfl, by decide⟩
def Fresh (w w' : World) (v : Value) (l : List UInt8) : Prop := w'.ownsRow w.heap.size 5 1 v l.length (l.map b8) ∧ Below w.heap.size w w'
theorem same_any {a b : Option Addr} {n1 n2 c d : Nat} {l m : List UInt8} {w : World} (h1 : n1 = l.length) (h2 : n2 = m.length) (hl : Row w a (l.map b8)) (hm : Row w b (m.map b8)) (hc : l.length ≤ maxLen) :
    Calls Try.prog 18 #[.slice a n1 c, .slice b n2 d] w fun e w' => e = .returned (.bool (l == m)) ∧ ∃ n, w' = w.drewN n := by
  subst h1 h2
  unfold maxLen at hc
  by_cases hlen : l.length = m.length
  · have hne : ((l.length : Int) != (m.length : Int)) = false := by simp [hlen]
    have HL := Lib.hid hlen
    have hle : l.length ≤ m.length := by omega
    clear hlen
    go_enter Try.func18, Try.ntmps18
    go_wp2
    go_loopw [5] (fun i w' => ∃ k : Nat, k ≤ l.length ∧ i = .int .i64 k ∧ l.take k = m.take k ∧ ∃ n, w' = w.drewN n) (fun i _ => l.length - (intOf i).toNat)
    case atStart => exact ⟨0, Nat.zero_le _, rfl, rfl, 0, rfl⟩
    case round =>
      obtain ⟨k, hk, rfl, htake, n, rfl⟩ := hrel
      have HT := Lib.hid htake
      clear htake
      by_cases hlt : k < l.length
      · have hlt2 : k < m.length := by omega
        have c1 := hl.byte hlt
        have c2 := hm.byte hlt2
        have s1 := hl.byteSome hlt
        have s2 := hm.byteSome hlt2
        go_wp2
        go_quiet (fail)
        go_wp2
        · go_ret
          refine ⟨ret_bool ?_, n + nq, by first | rfl | rw [drewN_two]⟩
          rename_i hx
          have h1 : l[k].toNat ≠ m[k].toNat := by have h := hx; simp at h; omega
          refine (beq_eq_false_iff_ne.2 ?_).symm
          intro e
          exact h1 (by simp [e])
        · rename_i hx
          have h1 : l[k] = m[k] := UInt8.toNat_inj.1 (by have h := hx; simp at h; omega)
          have HK : Hid (l.take (k + 1) = m.take (k + 1)) := by
            show _ = _
            rw [List.take_succ_eq_append_getElem hlt, List.take_succ_eq_append_getElem hlt2, HT.out, h1]
          clear h1 hx
          go_roundw
          case rel => exact ⟨k + 1, by omega, by go_num, HK.out, n + nq, by first | rfl | rw [drewN_two]⟩
          case measure => simp [intOf]; omega
      · go_wp2
        go_ret
        refine ⟨ret_bool ?_, n, rfl⟩
        have := HL.out
        have h2 := HT.out
        rw [List.take_of_length_le (by omega), List.take_of_length_le (by omega)] at h2
        simp [h2]
  · have hne : ((l.length : Int) != (m.length : Int)) = true := by simp; omega
    have hle : (l == m) = false := by simp; intro h; exact hlen (by rw [h])
    rw [hle]
    have HL := Lib.hid hlen
    clear hlen hle
    go_enter Try.func18, Try.ntmps18
    go_wp2
    go_ret
    exact ⟨rfl, 0, rfl⟩
set_option maxRecDepth 20000 in
theorem put_any (x : Nat) (n : Nat) (w : World) (_hx : x < 18446744073709551616) (h1 : 1 ≤ n) (h8 : n ≤ 8) :
    Calls Try.prog 103 #[.int .u64 x, .int .i64 n] w fun e w' => ∃ v, e = .returned v ∧ Fresh w w' v (putL x n) := by
  obtain ⟨i0, hi, hz0, hz1, hz2⟩ := info_parts eB.hi
  have hmk := run_make (P := Try.prog) w 35 5 i0 (.int .u8 0) eB.ht hi hz0 .i64 .i64 n n (by omega) (Int.le_refl _) (by rw [hz2]; omega) (by omega)
  rw [hz1] at hmk
  simp only [Int.toNat_natCast, Nat.mul_one] at hmk
  have hm0 := toList_madeCells_one (.int .u8 0) n
  have hB : Blk (w.alloc (.cells (madeCells #[.int .u8 0] n) 5)) w.heap.size 5 (List.replicate n (.int .u8 0)) := by rw [← hm0]; exact Blk.new _ _ _
  have hb0 : Below w.heap.size w (w.alloc (.cells (madeCells #[.int .u8 0] n) 5)) := (Below.refl _ _).alloc (Nat.le_refl _) _
  clear hm0
  have HB := Lib.hid hB
  clear hB
  go_enter Try.func103, Try.ntmps103
  go_wp2
  go_loopw [17] (fun i w' => ∃ k : Nat, k ≤ n ∧ i = .int .i64 k ∧ Blk w' w.heap.size 5 ((putL x k).map b8 ++ List.replicate (n - k) (.int .u8 0)) ∧ Below w.heap.size w w') (fun i _ => n - (intOf i).toNat)
  case atStart => exact ⟨0, Nat.zero_le _, rfl, by simpa [putL] using HB.out, hb0⟩
  case round =>
    obtain ⟨k, hk, rfl, hB, hb⟩ := hrel
    by_cases hlt : k < n
    · have hc : wr.cell? ⟨w.heap.size, k, none⟩ = some (.int .u8 0) := hB.cell (by rw [List.getElem?_append_right (by simp)]; simp [List.getElem?_replicate]; omega)
      have hf := hB.free k
      have HS : Hid (Blk (wr.setCell ⟨w.heap.size, k, none⟩ (.int .u8 (((x : Int) / 2 ^ (8 * k)) % 256))) w.heap.size 5 ((putL x (k + 1)).map b8 ++ List.replicate (n - (k + 1)) (.int .u8 0))) := by
        have h := hB.set k (.int .u8 (((x : Int) / 2 ^ (8 * k)) % 256))
        rw [show n - k = (n - (k + 1)) + 1 by omega, set_next _ _ _ k _ (by simp)] at h
        rw [byte_shr] at h ⊢
        simp only [putL, List.map_append, List.map_cons, List.map_nil]
        exact h
      have hb1 := hb.setCell (p := ⟨w.heap.size, k, none⟩) (Nat.le_refl _) (.int .u8 (((x : Int) / 2 ^ (8 * k)) % 256))
      clear hB
      go_wp2
      first
        | exact ⟨⟨k + 1, by omega, by go_num, HS.out, hb1⟩, by simp [intOf] <;> omega⟩
        | (refine ⟨?_, by simp [intOf] <;> omega⟩; (repeat apply Exists.intro); exact ⟨⟨k + 1, by omega, by go_num, HS.out, hb1⟩, rfl⟩)
    · obtain rfl : k = n := by omega
      go_wp2
      go_ret
      have h := hB.owns (base := w.heap.size) (n := k) (c := k) (Nat.le_refl _) (Nat.le_refl _) (by simp) (by unfold maxLen; omega)
      refine ⟨_, rfl, ?_, hb⟩
      have e : ((putL x k).map b8).take k = (putL x k).map b8 := List.take_of_length_le (by simp)
      rw [putL_length]
      simp only [Nat.sub_self, List.replicate_zero, List.append_nil, e] at h
      exact h
theorem grown_set {w wr : World} {g : Nat} (h : w.grownBy wr (some g)) (i : Nat) (u : Value) : w.grownBy (wr.setCell ⟨g, i, none⟩ u) (some g) :=
  ⟨h.os, h.tape, h.output, by simpa [World.setCell] using h.size, fun k hk hne => by rw [Below.heap_setCell _ _ _ _ (fun e => hne (by simp only at e; rw [e]))]; exact h.block k hk hne⟩
theorem rev_any (g n c : Nat) (l : List UInt8) (rest : List Value) (w : World) (hB : Blk w g 5 (l.map b8 ++ rest)) (h1 : 1 ≤ n) (hn : n = l.length) (hm : l.length ≤ maxLen) :
    Calls Try.prog 104 #[.slice (some ⟨g, 0, none⟩) n c] w fun e w' => e = .returned (.tuple #[]) ∧ Blk w' g 5 (l.reverse.map b8 ++ rest) ∧ w.grownBy w' (some g) := by
  unfold maxLen at hm
  have HB := Lib.hid hB
  have HN := Lib.hid hn
  have hnm : n ≤ 2 ^ 63 - 1 := by omega
  clear hB hn hm
  go_enter Try.func104, Try.ntmps104
  go_wp2
  go_loopw [2, 3] (fun i j w' => ∃ (i0 j0 : Nat) (m : List UInt8), i0 + j0 + 1 = n ∧ i = .int .i64 i0 ∧ j = .int .i64 j0 ∧ RevAt l m n i0 j0 ∧ Blk w' g 5 (m.map b8 ++ rest) ∧ w.grownBy w' (some g)) (fun i _ _ => n - (intOf i).toNat)
  case atStart => exact ⟨0, n - 1, l, by omega, rfl, by congr 1; omega, RevAt.start l n, HB.out, World.grownBy.refl _ _⟩
  case round =>
    obtain ⟨i, j, m, hij, rfl, rfl, hr, hB, hg⟩ := hrel
    have HIJ := Lib.hid hij
    have hj : (j : Int) ≤ n := by omega
    have hjn : j < n := by omega
    have hin : i < n := by omega
    have hin2 : (i : Int) < n := by omega
    have hjn2 : (j : Int) < n := by omega
    have hml := hr.1
    have hn := HN.out
    by_cases hlt : i < j
    · have hmi : i < m.length := by omega
      have hmj : j < m.length := by omega
      have c1 := hB.byteL hmi
      have c2 := hB.byteL hmj
      have f1 := hB.free i
      have f2 := hB.free j
      have HS : Hid (Blk (((wr.setCell ⟨g, i, none⟩ (b8 m[j])).setCell ⟨g, j, none⟩ (b8 m[i])).drew) g 5 (((m.set i m[j]).set j m[i]).map b8 ++ rest)) :=
        ((hB.setL hmi m[j]).setL (by simpa using hmj) m[i]).drew
      have HG : Hid (w.grownBy (((wr.setCell ⟨g, i, none⟩ (b8 m[j])).setCell ⟨g, j, none⟩ (b8 m[i])).drew) (some g)) := grownBy_drew (grown_set (grown_set hg _ _) _ _)
      have HR : RevAt l ((m.set i m[j]).set j m[i]) n (i + 1) (j - 1) := hr.step (by omega) hij hlt
      have hlt2 : (i : Int) < j := by omega
      clear hij hml hB hg hr hn
      go_wp2
      go_region
      go_wp2
      have := HIJ.out
      first
        | exact ⟨⟨i + 1, j - 1, _, by omega, by go_num, by congr 1; omega, HR, HS.out, HG.out⟩, by simp [intOf] <;> omega⟩
        | (refine ⟨?_, by simp [intOf] <;> omega⟩; (repeat apply Exists.intro); exact ⟨⟨i + 1, j - 1, _, by omega, by go_num, by congr 1; omega, HR, HS.out, HG.out⟩, rfl⟩)
    · clear hn
      go_wp2
      go_end0
      refine ⟨rfl, ?_, hg⟩
      have hn := HN.out
      subst hn
      rw [← hr.whole hij hlt]
      exact hB
theorem Fresh.open {w w' : World} {v : Value} {l : List UInt8} (h : Fresh w w' v l) : ∃ a c, v = .slice a l.length c ∧ Row w' a (l.map b8) ∧ Below w.heap.size w w' ∧ l.length ≤ maxLen ∧ l.length ≤ c := by
  obtain ⟨a, c, hv, h1, h2, h3⟩ := owns_row h.1
  exact ⟨a, c, hv, h3, h.2, by omega, h1⟩
end Go.Proofs.Ytakliplkabgmbaa
set_option maxRecDepth 20000
namespace Go.Proofs.Ytakliplkabgmbaa
open Go.RowKit Go.Hd
section
variable (ρ : Operand → Value) (dst : Option Tmp) (ty : TypeId) (pos : String) (after : Array Edge) (guard : Option (Nat × Bool))
theorem h_ldV (x : Operand) : execOp ρ { dst, op := .load 63 x, type := ty, pos, after, guard } = (do pure (.value (← ldOp 63 (ρ x)))) := rfl
theorem h_stV (x y : Operand) : execOp ρ { dst, op := .store 63 x y, type := ty, pos, after, guard } = (do stoOp 63 (ρ x) (ρ y); pure .skip) := rfl
theorem h_alV : execOp ρ { dst, op := .alloc 63, type := ty, pos, after, guard } = (do pure (.value (← alOp 63))) := rfl
end
def zV : Array Value := List.toArray (α := Value) [.int .i64 0, .int .i64 0, .slice none 0 0, strV [], .slice none 0 0, .slice none 0 0]
theorem zV_size : zV.size = 6 := by rfl
theorem infoV : (Try.prog.info? 63).map (fun i => (i.zero, i.size)) = some (some (.agg zV), 6) := by kernel_rfl
theorem sizeV : (Try.prog.info? 63).map (·.size) = some 6 := (zero_of_info infoV).2
theorem zeroV : (Try.prog.info? 63).bind (·.zero) = some (.agg zV) := by kernel_rfl
theorem r_ldV {w : World} {b : Nat} {cs : Array Value} {T : TypeId} (hb : w.heap.size = b) (hs : cs.size = 6) : (ldOp 63 (.pointer (some ⟨b, 0, none⟩))).run Try.prog (w.alloc (.cells cs T)) = .ok (.agg cs) (w.alloc (.cells cs T)) :=
  ldOp_new hb Try.underlying63 rfl (by rw [hs]; exact sizeV)
theorem r_stV {w : World} {b : Nat} {old cs : Array Value} {T : TypeId} (hb : w.heap.size = b) (ho : old.size = 6) (hs : cs.size = 6) (h1 : OneC cs) : (stoOp 63 (.pointer (some ⟨b, 0, none⟩)) (.agg cs)).run Try.prog (w.alloc (.cells old T)) = .ok () (w.alloc (.cells cs T)) :=
  stOp_new hb (by rw [hs]; exact sizeV) (by rw [ho, hs]) h1
theorem r_alV {w : World} : (alOp 63).run Try.prog w = .ok (.pointer (some ⟨w.heap.size, 0, none⟩)) (w.alloc (.cells zV 63)) := alOp_run zeroV
attribute [local go_sem ↓] h_ldV h_stV h_alV
attribute [local go_sem] r_ldV r_stV r_alV
theorem canF_bad {d : Nat} {k n : Int} {b t : List UInt8} {ks : List (List UInt8)} {l : List PV} (h : ¬ (0 ≤ k ∧ k ≤ 7)) : canF d (.mk k n b t ks l) = false := by
  cases d with
  | zero => rfl
  | succ d => simp [canF, PV.kind, h]
theorem canF_map {d : Nat} {n : Int} {b t : List UInt8} {ks : List (List UInt8)} {l : List PV} (h : ¬ (ks.length = l.length ∧ risesT ks = true)) : canF d (.mk 7 n b t ks l) = false := by
  cases d with
  | zero => rfl
  | succ d =>
    simp only [canF, PV.kind, PV.keys, PV.list]
    have : (ks.length == l.length && risesT ks) = false := by
      cases h2 : (ks.length == l.length && risesT ks) with
      | false => rfl
      | true => simp at h2; exact absurd h2 h
    rw [this]; rfl
theorem canF_many {d : Nat} {k n : Int} {b t : List UInt8} {ks : List (List UInt8)} {l : List PV} (h6 : 6 ≤ k) (h7 : k ≤ 7) (h : k = 7 → ks.length = l.length ∧ risesT ks = true) : canF (d + 1) (.mk k n b t ks l) = l.all (canF d) := by
  show (decide (0 ≤ k ∧ k ≤ 7) && (k != 7 || (ks.length == l.length && risesT ks)) && (decide (k < 6) || l.all (canF d))) = _
  have e1 : decide (0 ≤ k ∧ k ≤ 7) = true := decide_eq_true ⟨by omega, h7⟩
  have e2 : decide (k < 6) = false := decide_eq_false (by omega)
  have e3 : (k != 7 || (ks.length == l.length && risesT ks)) = true := by
    by_cases hk : k = 7
    · obtain ⟨h1, h2⟩ := h hk; simp [h1, h2]
    · simp [hk]
  rw [e1, e2, e3]; simp
theorem canF_flat {d : Nat} {k n : Int} {b t : List UInt8} {ks : List (List UInt8)} {l : List PV} (h0 : 0 ≤ k) (h6 : k < 6) : canF (d + 1) (.mk k n b t ks l) = true := by
  show (decide (0 ≤ k ∧ k ≤ 7) && (k != 7 || (ks.length == l.length && risesT ks)) && (decide (k < 6) || l.all (canF d))) = _
  have e1 : decide (0 ≤ k ∧ k ≤ 7) = true := decide_eq_true ⟨h0, by omega⟩
  have e2 : decide (k < 6) = true := decide_eq_true h6
  have e3 : (k != 7) = true := by simp; omega
  rw [e1, e2, e3]; rfl
theorem risesT_not {ks : List (List UInt8)} {j : Nat} (h : risesT (ks.take j) = false) : risesT ks = false := by
  rcases Bool.eq_false_or_eq_true (risesT ks) with h2 | h2
  · rw [risesT_of ks j h2] at h; cases h
  · exact h2
set_option maxHeartbeats 2000000 in
theorem can_any {w : World} {cs : List Value} {v : PV} (h : VAt w cs v) : ∀ (d : Nat) (w' : World), d ≤ 1000 → Below w.heap.size w w' →
    Calls Try.prog 49 #[.agg cs.toArray, .int .i64 (d : Int)] w' fun e w'' => e = .returned (.bool (canF d v)) ∧ Below w'.heap.size w' w'' := by
  induction h with
  | @mk k n b t ks l ab ak al cb ck cl css hk hn hb hbc ht hks hkc hkt hl hlc hcs h6 sub ih =>
  intro d w' hdd hbw
  have hb0 : Below w'.heap.size w' (w'.alloc (.cells (List.toArray (α := Value) [.int .i64 k, .int .i64 n, .slice ab b.length cb, strV t, .slice ak ks.length ck, .slice al l.length cl]) 63)) := (Below.refl _ _).alloc (Nat.le_refl _) _
  have B0 : Blk (w'.alloc (.cells (List.toArray (α := Value) [.int .i64 k, .int .i64 n, .slice ab b.length cb, strV t, .slice ak ks.length ck, .slice al l.length cl]) 63)) w'.heap.size 63 [.int .i64 k, .int .i64 n, .slice ab b.length cb, strV t, .slice ak ks.length ck, .slice al l.length cl] := Blk.new _ _ _
  generalize hS : strV t = S at *
  have hSo : S.oneCell' = true := by rw [← hS]; rfl
  clear hS
  go_enter Try.func49, Try.ntmps49
  go_upto_region 1 with (fail)
  generalize w'.alloc (.cells (List.toArray (α := Value) [.int .i64 k, .int .i64 n, .slice ab b.length cb, S, .slice ak ks.length ck, .slice al l.length cl]) 63) = W at *
  have c0 : W.cell? ⟨w'.heap.size, 0, none⟩ = some (.int .i64 k) := B0.cell rfl
  have c4 : W.cell? ⟨w'.heap.size, 4, none⟩ = some (.slice ak ks.length ck) := B0.cell rfl
  have c5 : W.cell? ⟨w'.heap.size, 5, none⟩ = some (.slice al l.length cl) := B0.cell rfl
  by_cases hr : 0 ≤ k ∧ k ≤ 7
  · obtain ⟨k0, k7⟩ := hr
    have g0 : ¬ k < 0 := by omega
    have g7 : ¬ 7 < k := by omega
    cases d with
    | zero =>
      go_wp2
      go_ret
      exact ⟨rfl, hb0⟩
    | succ d =>
      have gd : (((d + 1 : Nat) : Int) == 0) = false := beq_eq_false_iff_ne.2 (by omega)
      have HMAP := Lib.hid (fun h => canF_map (d := d + 1) (n := n) (b := b) (t := t) (ks := ks) (l := l) h)
      go_upto_if 23 with (fail)
      go_cut [4] (fun _ wx => (Blk wx w'.heap.size 63 [.int .i64 k, .int .i64 n, .slice ab b.length cb, S, .slice ak ks.length ck, .slice al l.length cl] ∧ Below w'.heap.size w' wx) ∧ (k = 7 → ks.length = l.length ∧ risesT ks = true))
      case first =>
        by_cases h7 : k = 7
        · subst h7
          by_cases hkl : ks.length = l.length
          · have t1 : ((ks.length : Int) != (l.length : Int)) = false := by rw [hkl]; simp
            have HKL := Lib.hid hkl
            clear hkl
            go_wp2
            go_loopw [34] (fun i wr => ∃ j : Nat, j ≤ ks.length ∧ i = .int .i64 j ∧ risesT (ks.take j) = true ∧ Blk wr w'.heap.size 63 [.int .i64 7, .int .i64 n, .slice ab b.length cb, S, .slice ak ks.length ck, .slice al l.length cl] ∧ Below w'.heap.size w' wr) (fun i _ => ks.length - (intOf i).toNat)
            case atStart => exact ⟨0, Nat.zero_le _, rfl, by rw [List.take_zero]; rfl, B0, hb0⟩
            case round =>
              obtain ⟨j, hj, rfl, hri, BK, hbk⟩ := hrel
              have c0 : wr.cell? ⟨w'.heap.size, 0, none⟩ = some (.int .i64 7) := BK.cell rfl
              have c4 : wr.cell? ⟨w'.heap.size, 4, none⟩ = some (.slice ak ks.length ck) := BK.cell rfl
              by_cases hlt : j < ks.length
              · have hrowk := hks.below (hbw.trans (hbk.mono hbw.size))
                have q1 : wr.cell? ((hd ak).add j) = some (strV ks[j]) := hrowk.cell (by simp [hlt])
                have s1 : ak.isSome = true := hrowk.isSome (i := j) (by simpa using hlt)
                have j0 : (0 : Int) ≤ (j : Int) := by omega
                have j1 : (j : Int) < (ks.length : Int) := by omega
                unfold strV at q1
                by_cases hj0 : j = 0
                · subst hj0
                  have HL := Lib.hid (risesT_one ks)
                  have ib : (1 : Int) ≤ (ks.length : Int) := by omega
                  have q1' : wr.cell? (hd ak) = some (.string (str ks[0])) := by have h := q1; simp only [Addr.add] at h; simpa using h
                  have n0 : (0 : Int) < (ks.length : Int) := by omega
                  generalize ks[0] = x at *
                  clear hri
                  go_wp2
                  first
                    | exact ⟨⟨0 + 1, by omega, (by first | rfl | go_num | (congr 1; omega)), HL.out, BK, hbk⟩, by simp [intOf] <;> omega⟩
                    | (refine ⟨?_, by simp [intOf] <;> omega⟩; (repeat apply Exists.intro); exact ⟨⟨0 + 1, by omega, (by first | rfl | go_num | (congr 1; omega)), HL.out, BK, hbk⟩, rfl⟩)
                · obtain ⟨i, rfl⟩ : ∃ i, j = i + 1 := ⟨j - 1, by omega⟩
                  have hil : i < ks.length := by omega
                  have q0 : wr.cell? ((hd ak).add i) = some (strV ks[i]) := hrowk.cell (by simp [hil])
                  unfold strV at q0
                  have HT := Lib.hid (risesT_take ks i hlt)
                  have HN := Lib.hid (fun h => risesT_not (ks := ks) (j := i + 2) h)
                  have HRI := Lib.hid hri
                  have ew : IntKind.i64.wrap (i : Int) = (i : Int) := IntWalk.i64_in _ (by unfold maxLen at hkc; omega)
                  have ew1 : IntKind.i64.wrap ((i : Int) + 1 - 1) = (i : Int) := by rw [IntWalk.i64_in _ (by unfold maxLen at hkc; omega)]; omega
                  have i0 : (0 : Int) ≤ (i : Int) := by omega
                  have i1 : (i : Int) < (ks.length : Int) := by omega
                  have i4 : ((i : Int) + 1).toNat = i + 1 := by omega
                  have i5 : (0 : Int) < (i : Int) + 1 := by omega
                  have i2 : (0 : Int) ≤ (i : Int) + 1 := by omega
                  have i3 : (i : Int) + 1 < (ks.length : Int) := by omega
                  have q1' : wr.cell? ⟨(hd ak).block, (hd ak).off + (i + 1), none⟩ = some (.string (str ks[i + 1])) := by have h := q1; simp only [Addr.add] at h; simpa using h
                  have ib : (i : Int) + 1 + 1 ≤ 9223372036854775807 := by unfold maxLen at hkc; omega
                  have ew2 : IntKind.i64.wrap ((i : Int) + 1 + 1) = (i : Int) + 1 + 1 := IntWalk.i64_in _ (by omega)
                  generalize ks[i] = x at *
                  generalize ks[i + 1] = y at *
                  clear hri
                  have HLE : Hid (leT y x = (Op.bytesLess (str y).toList (str x).toList || (str y).toList == (str x).toList)) := rfl
                  rcases Bool.eq_false_or_eq_true (Op.bytesLess (str y).toList (str x).toList) with hA | hA
                  · have HR := Lib.hid (HMAP.out (fun h => by
                      have h1 := HN.out (by rw [HT.out, HRI.out, HLE.out, hA]; rfl)
                      rw [h1] at h
                      exact absurd h.2 (by decide)))
                    go_wp2
                    go_ret
                    exact ⟨by rw [HR.out]; rfl, hbk⟩
                  · rcases Bool.eq_false_or_eq_true ((str y).toList == (str x).toList) with hB | hB
                    · have HR := Lib.hid (HMAP.out (fun h => by
                        have h1 := HN.out (by rw [HT.out, HRI.out, HLE.out, hA, hB]; rfl)
                        rw [h1] at h
                        exact absurd h.2 (by decide)))
                      go_wp2
                      go_ret
                      exact ⟨by rw [HR.out]; rfl, hbk⟩
                    · have HL : Hid (risesT (ks.take (i + 1 + 1)) = true) := by
                        show _ = _
                        rw [HT.out, HRI.out, HLE.out, hA, hB]; rfl
                      go_wp2
                      first
                        | exact ⟨⟨i + 1 + 1, by omega, (by first | rfl | go_num | (congr 1; omega)), HL.out, BK, hbk⟩, by simp [intOf] <;> omega⟩
                        | (refine ⟨?_, by simp [intOf] <;> omega⟩; (repeat apply Exists.intro); exact ⟨⟨i + 1 + 1, by omega, (by first | rfl | go_num | (congr 1; omega)), HL.out, BK, hbk⟩, rfl⟩)
              · obtain rfl : j = ks.length := by omega
                rw [List.take_length] at hri
                go_wp2
                go_meet
                exact ⟨⟨BK, hbk⟩, fun _ => ⟨HKL.out, hri⟩⟩
          · have t1 : ((ks.length : Int) != (l.length : Int)) = true := by simpa using fun h => hkl (by exact_mod_cast h)
            have HR := Lib.hid (HMAP.out (fun h => hkl h.1))
            clear hkl
            go_wp2
            go_ret
            exact ⟨by rw [HR.out]; rfl, hb0⟩
        · have t1 : (k == 7) = false := beq_eq_false_iff_ne.2 h7
          go_wp2
          go_meet
          exact ⟨⟨B0, hb0⟩, fun h => absurd h h7⟩
      case rest =>
        clear B0 hb0 c0 c4 c5
        obtain ⟨⟨B0, hb0⟩, hmap⟩ := hcut
        have c0 : wc.cell? ⟨w'.heap.size, 0, none⟩ = some (.int .i64 k) := B0.cell rfl
        have c5 : wc.cell? ⟨w'.heap.size, 5, none⟩ = some (.slice al l.length cl) := B0.cell rfl
        by_cases hk6 : 6 ≤ k
        · have HM := Lib.hid (canF_many (d := d) (n := n) (b := b) (t := t) hk6 k7 hmap)
          clear hmap
          go_wp2
          go_loopw [58] (fun i wr => ∃ j : Nat, j ≤ l.length ∧ i = .int .i64 j ∧ (l.take j).all (canF d) = true ∧ Below w'.heap.size w' wr) (fun i _ => l.length - (intOf i).toNat)
          case atStart => exact ⟨0, Nat.zero_le _, rfl, by rw [List.take_zero]; rfl, hb0⟩
          case round =>
            obtain ⟨j, hj, rfl, hri, hb⟩ := hrel
            by_cases hlt : j < l.length
            · have hcj : css[j]? = some (css[j]'(by omega)) := by simp
              have hvj : l[j]? = some l[j] := by simp [hlt]
              have IH := ih j _ _ hcj hvj d
              have hrow := hl.below (hbw.trans (hb.mono hbw.size))
              have s1 := hrow.elemSome (s := 6) h6 (by decide) (i := j) (by omega)
              have q1 := ldOp_at (P := Try.prog) (ty := 63) (hrow.elem (s := 6) h6 hcj) Try.underlying63 rfl (by rw [h6 _ (List.getElem_mem _)]; exact sizeV)
              have x6 : (css[j]'(by omega)).toArray.size = 6 := by simpa using h6 _ (List.getElem_mem _)
              have xo : OneC (css[j]'(by omega)).toArray := all_oneCell_toArray (sub j _ _ hcj hvj).one
              have HA : Hid ((l.take (j + 1)).all (canF d) = ((l.take j).all (canF d) && canF d l[j])) := by
                show _ = _
                rw [List.take_succ_eq_append_getElem hlt, List.all_append]; simp
              have HN : Hid (canF d l[j] = false → l.all (canF d) = false) := by
                intro h
                rcases Bool.eq_false_or_eq_true (l.all (canF d)) with h2 | h2
                · rw [List.all_eq_true.1 h2 _ (List.getElem_mem hlt)] at h; cases h
                · exact h2
              have HRI := Lib.hid hri
              have zs := zV_size
              have hsz := hb.size
              have j0 : (0 : Int) ≤ (j : Int) := by omega
              have j1 : (j : Int) < (l.length : Int) := by omega
              have jb : (j : Int) + 1 ≤ 9223372036854775807 := by unfold maxLen at hlc; omega
              have ew2 : IntKind.i64.wrap ((j : Int) + 1) = (j : Int) + 1 := IntWalk.i64_in _ (by omega)
              have ew : IntKind.i64.wrap (d : Int) = (d : Int) := IntWalk.i64_in _ (by omega)
              have ew1 : IntKind.i64.wrap ((d : Int) + 1 - 1) = (d : Int) := by rw [IntWalk.i64_in _ (by omega)]; omega
              have hbC : Below w.heap.size w wr := hbw.trans (hb.mono hbw.size)
              generalize css[j]'(by omega) = c at *
              generalize l[j] = v at *
              clear hri hcj hvj hrow
              go_wp2_with fail
              refine (IH _ (by omega) (hbC.alloc hbC.size _)).mono ?_
              rintro e w5 ⟨rfl, hb5⟩
              have hbw5 : Below w'.heap.size w' w5 := (hb.alloc hsz _).trans (hb5.mono (by simp; omega))
              rcases Bool.eq_false_or_eq_true (canF d v) with h | h
              · have HL : Hid ((l.take (j + 1)).all (canF d) = true) := by show _ = _; rw [HA.out, HRI.out, h]; rfl
                rw [h]
                go_wp2
                first
                  | exact ⟨⟨j + 1, by omega, (by first | rfl | go_num | (congr 1; omega)), HL.out, hbw5⟩, by simp [intOf] <;> omega⟩
                  | (refine ⟨?_, by simp [intOf] <;> omega⟩; (repeat apply Exists.intro); exact ⟨⟨j + 1, by omega, (by first | rfl | go_num | (congr 1; omega)), HL.out, hbw5⟩, rfl⟩)
              · have HR := Lib.hid (HM.out.trans (HN.out h))
                rw [h]
                go_wp2
                go_ret
                exact ⟨by rw [HR.out]; rfl, hbw5⟩
            · obtain rfl : j = l.length := by omega
              rw [List.take_length] at hri
              go_wp2
              go_ret
              exact ⟨by rw [HM.out, hri]; rfl, hb⟩
        · have HM := Lib.hid (canF_flat (d := d) (n := n) (b := b) (t := t) (ks := ks) (l := l) k0 (by omega))
          have g6 : ¬ 6 ≤ k := hk6
          go_wp2
          go_ret
          exact ⟨by rw [HM.out]; rfl, hb0⟩
  · have HR := Lib.hid (canF_bad (d := d) (n := n) (b := b) (t := t) (ks := ks) (l := l) hr)
    by_cases g0 : k < 0
    · clear hr
      go_wp2
      go_ret
      exact ⟨by rw [HR.out]; rfl, hb0⟩
    · have g7 : 7 < k := by omega
      clear hr
      go_wp2
      go_ret
      exact ⟨by rw [HR.out]; rfl, hb0⟩
end Go.Proofs.Ytakliplkabgmbaa
set_option maxRecDepth 20000
namespace Go.Proofs.Ytakliplkabgmbaa
open Go.RowKit Go.Hd
/-! What a call that appends to an owned row may change. -/
structure Gro (w w' : World) (v u : Value) : Prop where
  gr : w.grownBy w' v.ownBlock
  own : ∀ k, u.ownBlock = some k → v.ownBlock = some k ∨ w.heap.size ≤ k
theorem Gro.trans {a b c : World} {v u x : Value} (h : Gro a b v u) (k : Gro b c u x) : Gro a c v x := by
  refine ⟨⟨k.gr.os.trans h.gr.os, k.gr.tape.trans h.gr.tape, k.gr.output.trans h.gr.output, Nat.le_trans h.gr.size k.gr.size, fun i hi hne => ?_⟩, fun i hi => ?_⟩
  · rw [k.gr.block i (Nat.lt_of_lt_of_le hi h.gr.size) (fun e => ?_), h.gr.block i hi hne]
    rcases h.own i e.symm with h1 | h1
    · exact hne h1.symm
    · omega
  · rcases k.own i hi with h1 | h1
    · exact h.own i h1
    · exact .inr (Nat.le_trans h.gr.size h1)
theorem Gro.ofBelow {a b : World} {v : Value} (h : Below a.heap.size a b) : Gro a b v v := ⟨grownBy_below h, fun _ h => .inl h⟩
theorem Gro.size {a b : World} {v u : Value} (h : Gro a b v u) : a.heap.size ≤ b.heap.size := h.gr.size
theorem Gro.below {w w' : World} {v u : Value} {base old : Nat} (h : Gro w w' v u) (hv : ∀ k, v.ownBlock = some k → base ≤ k) (hob : old ≤ base) (ho : old ≤ w.heap.size) : Below old w w' :=
  ⟨h.gr.os, h.gr.tape, h.gr.output, h.gr.size, fun i hi => h.gr.block i (by omega) (fun e => by have := hv i e.symm; omega)⟩
theorem Gro.blk {w w' : World} {v u : Value} {q : Nat} {T : TypeId} {xs : List Value} (h : Gro w w' v u) (hb : Blk w q T xs) (hq : v.ownBlock ≠ some q) : Blk w' q T xs ∧ u.ownBlock ≠ some q := by
  refine ⟨Blk.keptBy hb h.gr hq, fun e => ?_⟩
  rcases h.own q e with h1 | h1
  · exact hq h1
  · have := hb.lt; omega
theorem owns_rowN {w : World} {base : Nat} {e : TypeId} {v : Value} {n size : Nat} {xs : List Value} (h : w.ownsRow base e size v n xs) (_hs : 0 < size) :
    ∃ a c, v = .slice a n c ∧ n ≤ c ∧ c ≤ maxLen ∧ Row w a xs ∧ (0 < xs.length → v.ownBlock = some (hd a).block ∧ base ≤ (hd a).block ∧ (hd a).block < w.heap.size) := by
  obtain ⟨hl, ⟨rfl, rfl⟩ | ⟨g, c, cur, rfl, hg, hb, hn, hm, hy, ht⟩⟩ := h
  · obtain rfl : xs = [] := List.eq_nil_of_length_eq_zero (by simpa using hl)
    exact ⟨none, 0, rfl, Nat.le_refl _, Nat.zero_le _, Row.nil _ _, fun h => by simp at h⟩
  · have hB : Blk w g e cur.toList := by unfold Blk; simpa using hb
    refine ⟨_, c, rfl, hn, hm, ?_, fun _ => ⟨rfl, hg, hB.lt⟩⟩
    rw [← ht]; exact hB.row.take _
theorem own_app1 {t ty e : TypeId} {z : Value} {bytes : Nat} (E : Elem Try.prog t e z 1 bytes) {w : World} {base : Nat} {v : Value} {n : Nat} {xs : List Value} (hown : w.ownsRow base e 1 v n xs)
    (x : Value) (hx : x.oneCell' = true) (h63 : n + 1 ≤ maxLen) (hbytes : (n + 1) * bytes ≤ 140737488355328) (hbase : base ≤ w.heap.size) :
    ∃ a' c' w', (Builtin.append_ #[t, t] ty #[v, .slice (some ⟨w.heap.size, 0, none⟩) 1 1]).run Try.prog (w.alloc (.cells #[x] e)) = .ok (.slice a' (n + 1) c') w' ∧ w'.ownsRow base e 1 (.slice a' (n + 1) c') (n + 1) (xs ++ [x]) ∧ Gro w w' v (.slice a' (n + 1) c') := by
  have hsrc : Src Try.prog 1 t (.slice (some ⟨w.heap.size, 0, none⟩) 1 1) 1 [x] (w.alloc (.cells #[x] e)) :=
    Src.ofRow E.ht _ 1 1 [x] (by decide) rfl (Blk.new w e #[x]).row (fun u hu => by simp at hu; subst hu; exact hx)
  obtain ⟨v', w', h1, h2, h3, h4⟩ := append_srcK (ty := ty) E (hown.alloc _) hsrc h63 hbytes (by simp; omega)
  obtain ⟨a', c', rfl, _⟩ := owns_rowN h2 (by decide)
  have hb0 : Below w.heap.size w (w.alloc (.cells #[x] e)) := (Below.refl _ _).alloc (Nat.le_refl _) _
  exact ⟨a', c', w', h1, h2, (Gro.ofBelow hb0).trans ⟨h3, h4⟩⟩
theorem eS : Elem Try.prog 60 9 (.string .empty) 1 16 := ⟨by kernel_rfl, by kernel_rfl, rfl, by decide⟩
abbrev KsAt (base : Nat) (w : World) (u : Value) (ks : List (List UInt8)) : Prop := w.ownsRow base 9 1 u ks.length (ks.map strV)
end Go.Proofs.Ytakliplkabgmbaa
set_option maxRecDepth 20000
namespace Go.Hd
open Go Go.RowKit
structure Abt where
  name : List UInt8
  id : List UInt8
  time : Int
  comment : List UInt8
  items : Int
  bytes : Int
structure Prt where
  id : List UInt8
  size : Int
def abtC (x : Abt) : List Value := strV x.name :: (x.id.map b8 ++ [.int .i64 x.time, strV x.comment, .int .i64 x.items, .int .i64 x.bytes])
def prtC (p : Prt) : List Value := p.id.map b8 ++ [.int .i64 p.size]
structure AbtOk (x : Abt) : Prop where
  id : x.id.length = 32
  time : in64 x.time
  items : in64 x.items
  bytes : in64 x.bytes
  name : x.name.length ≤ maxLen
  comment : x.comment.length ≤ maxLen
structure PrtOk (p : Prt) : Prop where
  id : p.id.length = 32
  size : in64 p.size
theorem abtC_len {x : Abt} (h : AbtOk x) : (abtC x).length = 37 := by simp [abtC, h.id]
theorem prtC_len {p : Prt} (h : PrtOk p) : (prtC p).length = 33 := by simp [prtC, h.id]
theorem b8_one (l : List UInt8) : ∀ v ∈ l.map b8, v.oneCell' = true := by
  intro v hv
  obtain ⟨c, _, rfl⟩ := List.mem_map.1 hv
  rfl
theorem abtC_one (x : Abt) : ∀ v ∈ abtC x, v.oneCell' = true := by
  intro v hv
  unfold abtC at hv
  rcases List.mem_cons.1 hv with rfl | hv
  · rfl
  · rcases List.mem_append.1 hv with hv | hv
    · exact b8_one _ v hv
    · simp only [List.mem_cons, List.not_mem_nil, or_false] at hv
      rcases hv with rfl | rfl | rfl | rfl <;> rfl
theorem prtC_one (p : Prt) : ∀ v ∈ prtC p, v.oneCell' = true := by
  intro v hv
  unfold prtC at hv
  rcases List.mem_append.1 hv with hv | hv
  · exact b8_one _ v hv
  · simp only [List.mem_cons, List.not_mem_nil, or_false] at hv
    subst hv; rfl
theorem abtC_0 (x : Abt) : (abtC x)[0]? = some (strV x.name) := rfl
theorem abtC_33 {x : Abt} (h : AbtOk x) : (abtC x)[33]? = some (.int .i64 x.time) := by
  unfold abtC; rw [List.getElem?_cons_succ, List.getElem?_append_right (by rw [List.length_map, h.id]; omega), List.length_map, h.id]; rfl
theorem abtC_34 {x : Abt} (h : AbtOk x) : (abtC x)[34]? = some (strV x.comment) := by
  unfold abtC; rw [List.getElem?_cons_succ, List.getElem?_append_right (by rw [List.length_map, h.id]; omega), List.length_map, h.id]; rfl
theorem abtC_35 {x : Abt} (h : AbtOk x) : (abtC x)[35]? = some (.int .i64 x.items) := by
  unfold abtC; rw [List.getElem?_cons_succ, List.getElem?_append_right (by rw [List.length_map, h.id]; omega), List.length_map, h.id]; rfl
theorem abtC_36 {x : Abt} (h : AbtOk x) : (abtC x)[36]? = some (.int .i64 x.bytes) := by
  unfold abtC; rw [List.getElem?_cons_succ, List.getElem?_append_right (by rw [List.length_map, h.id]; omega), List.length_map, h.id]; rfl
theorem abtC_id {x : Abt} (h : AbtOk x) : ((abtC x).drop 1).take 32 = x.id.map b8 := by
  unfold abtC
  rw [List.drop_one, List.tail_cons, List.take_append_of_le_length (by rw [List.length_map, h.id]; omega), List.take_of_length_le (by rw [List.length_map, h.id]; omega)]
theorem prtC_32 {p : Prt} (h : PrtOk p) : (prtC p)[32]? = some (.int .i64 p.size) := by
  unfold prtC; rw [List.getElem?_append_right (by rw [List.length_map, h.id]; omega), List.length_map, h.id]; rfl
theorem prtC_id {p : Prt} (h : PrtOk p) : ((prtC p).drop 0).take 32 = p.id.map b8 := by
  unfold prtC
  rw [List.drop_zero, List.take_append_of_le_length (by rw [List.length_map, h.id]; omega), List.take_of_length_le (by rw [List.length_map, h.id]; omega)]
end Go.Hd
namespace Go.Proofs.Ytakliplkabgmbaa
open Go.RowKit Go.Hd
section
variable (ρ : Operand → Value) (dst : Option Tmp) (ty : TypeId) (pos : String) (after : Array Edge) (guard : Option (Nat × Bool))
theorem h_ldID (x : Operand) : execOp ρ { dst, op := .load 29 x, type := ty, pos, after, guard } = (do pure (.value (← ldOp 29 (ρ x)))) := rfl
theorem h_stID (x y : Operand) : execOp ρ { dst, op := .store 29 x y, type := ty, pos, after, guard } = (do stoOp 29 (ρ x) (ρ y); pure .skip) := rfl
theorem h_alID : execOp ρ { dst, op := .alloc 29, type := ty, pos, after, guard } = (do pure (.value (← alOp 29))) := rfl
theorem h_ldAB (x : Operand) : execOp ρ { dst, op := .load 31 x, type := ty, pos, after, guard } = (do pure (.value (← ldOp 31 (ρ x)))) := rfl
theorem h_stAB (x y : Operand) : execOp ρ { dst, op := .store 31 x y, type := ty, pos, after, guard } = (do stoOp 31 (ρ x) (ρ y); pure .skip) := rfl
theorem h_alAB : execOp ρ { dst, op := .alloc 31, type := ty, pos, after, guard } = (do pure (.value (← alOp 31))) := rfl
theorem h_bdAB (parts : Array (Nat × Operand)) : execOp ρ { dst, op := .build 31 parts, type := ty, pos, after, guard } = (do pure (.value (← bdOp 31 (parts.map fun (i, x) => (i, ρ x))))) := rfl
theorem h_bsAB (n : Nat) (parts : Array (Nat × Operand)) : execOp ρ { dst, op := .buildSlice 27 n parts, type := ty, pos, after, guard } = (do pure (.value (← bsOp 27 n (parts.map fun (i, x) => (i, ρ x))))) := rfl
theorem h_ldPA (x : Operand) : execOp ρ { dst, op := .load 83 x, type := ty, pos, after, guard } = (do pure (.value (← ldOp 83 (ρ x)))) := rfl
theorem h_stPA (x y : Operand) : execOp ρ { dst, op := .store 83 x y, type := ty, pos, after, guard } = (do stoOp 83 (ρ x) (ρ y); pure .skip) := rfl
theorem h_alPA : execOp ρ { dst, op := .alloc 83, type := ty, pos, after, guard } = (do pure (.value (← alOp 83))) := rfl
theorem h_bdPA (parts : Array (Nat × Operand)) : execOp ρ { dst, op := .build 83 parts, type := ty, pos, after, guard } = (do pure (.value (← bdOp 83 (parts.map fun (i, x) => (i, ρ x))))) := rfl
theorem h_bsPA (n : Nat) (parts : Array (Nat × Operand)) : execOp ρ { dst, op := .buildSlice 32 n parts, type := ty, pos, after, guard } = (do pure (.value (← bsOp 32 n (parts.map fun (i, x) => (i, ρ x))))) := rfl
theorem h_nqPA (x y : Operand) (t : TypeId) : execOp ρ { dst, op := .binOp .neq 83 x y t, type := ty, pos, after, guard } = (do pure (.value (← nqOp 83 x y (ρ x) (ρ y)))) := rfl
theorem h_ap (x : Operand) : execOp ρ { dst, op := .sliceToArrayPointer 29 x, type := ty, pos, after, guard } = (do pure (.value (← apOp 29 (ρ x)))) := rfl
theorem h_cvM (x : Operand) : execOp ρ { dst, op := .convert 9 35 x, type := ty, pos, after, guard } = (do pure (.value (← cvOp 9 35 (ρ x)))) := rfl
end
def zID : Array Value := List.toArray (α := Value) (List.replicate 32 (.int .u8 0))
theorem zID_size : zID.size = 32 := by rfl
theorem infoID : (Try.prog.info? 29).map (fun i => (i.zero, i.size)) = some (some (.agg zID), 32) := by kernel_rfl
theorem sizeID : (Try.prog.info? 29).map (·.size) = some 32 := (zero_of_info infoID).2
theorem zeroID : (Try.prog.info? 29).bind (·.zero) = some (.agg zID) := by kernel_rfl
theorem r_ldID {w : World} {b : Nat} {cs : Array Value} {T : TypeId} (hb : w.heap.size = b) (hs : cs.size = 32) : (ldOp 29 (.pointer (some ⟨b, 0, none⟩))).run Try.prog (w.alloc (.cells cs T)) = .ok (.agg cs) (w.alloc (.cells cs T)) :=
  ldOp_new hb Try.underlying29 rfl (by rw [hs]; exact sizeID)
theorem r_stID {w : World} {b : Nat} {old cs : Array Value} {T : TypeId} (hb : w.heap.size = b) (ho : old.size = 32) (hs : cs.size = 32) (h1 : OneC cs) : (stoOp 29 (.pointer (some ⟨b, 0, none⟩)) (.agg cs)).run Try.prog (w.alloc (.cells old T)) = .ok () (w.alloc (.cells cs T)) :=
  stOp_new hb (by rw [hs]; exact sizeID) (by rw [ho, hs]) h1
theorem r_alID {w : World} : (alOp 29).run Try.prog w = .ok (.pointer (some ⟨w.heap.size, 0, none⟩)) (w.alloc (.cells zID 29)) := alOp_run zeroID
def zAB : Array Value := List.toArray (α := Value) (.string .empty :: (List.replicate 32 (.int .u8 0) ++ [.int .i64 0, .string .empty, .int .i64 0, .int .i64 0]))
theorem zAB_size : zAB.size = 37 := by rfl
theorem infoAB : (Try.prog.info? 31).map (fun i => (i.zero, i.size)) = some (some (.agg zAB), 37) := by kernel_rfl
theorem sizeAB : (Try.prog.info? 31).map (·.size) = some 37 := (zero_of_info infoAB).2
theorem zeroAB : (Try.prog.info? 31).bind (·.zero) = some (.agg zAB) := by kernel_rfl
theorem r_ldAB {w : World} {b : Nat} {cs : Array Value} {T : TypeId} (hb : w.heap.size = b) (hs : cs.size = 37) : (ldOp 31 (.pointer (some ⟨b, 0, none⟩))).run Try.prog (w.alloc (.cells cs T)) = .ok (.agg cs) (w.alloc (.cells cs T)) :=
  ldOp_new hb Try.underlying31 rfl (by rw [hs]; exact sizeAB)
theorem r_stAB {w : World} {b : Nat} {old cs : Array Value} {T : TypeId} (hb : w.heap.size = b) (ho : old.size = 37) (hs : cs.size = 37) (h1 : OneC cs) : (stoOp 31 (.pointer (some ⟨b, 0, none⟩)) (.agg cs)).run Try.prog (w.alloc (.cells old T)) = .ok () (w.alloc (.cells cs T)) :=
  stOp_new hb (by rw [hs]; exact sizeAB) (by rw [ho, hs]) h1
theorem r_alAB {w : World} : (alOp 31).run Try.prog w = .ok (.pointer (some ⟨w.heap.size, 0, none⟩)) (w.alloc (.cells zAB 31)) := alOp_run zeroAB
theorem r_bsAB {w : World} {cs : Array Value} (hs : cs.size = 37) : (bsOp 27 1 #[(0, .agg cs)]).run Try.prog w = .ok (.slice (some ⟨w.heap.size, 0, none⟩) 1 1) (w.alloc (.cells cs 31)) :=
  bsOp_one Try.underlying27 infoAB (by decide) (by decide) (by exact zAB_size) hs
theorem eAB : Elem Try.prog 27 31 (.agg zAB) 37 88 := ⟨by kernel_rfl, by kernel_rfl, rfl, by decide⟩
def zPA : Array Value := List.toArray (α := Value) (List.replicate 32 (.int .u8 0) ++ [.int .i64 0])
theorem zPA_size : zPA.size = 33 := by rfl
theorem infoPA : (Try.prog.info? 83).map (fun i => (i.zero, i.size)) = some (some (.agg zPA), 33) := by kernel_rfl
theorem sizePA : (Try.prog.info? 83).map (·.size) = some 33 := (zero_of_info infoPA).2
theorem zeroPA : (Try.prog.info? 83).bind (·.zero) = some (.agg zPA) := by kernel_rfl
theorem r_ldPA {w : World} {b : Nat} {cs : Array Value} {T : TypeId} (hb : w.heap.size = b) (hs : cs.size = 33) : (ldOp 83 (.pointer (some ⟨b, 0, none⟩))).run Try.prog (w.alloc (.cells cs T)) = .ok (.agg cs) (w.alloc (.cells cs T)) :=
  ldOp_new hb Try.underlying83 rfl (by rw [hs]; exact sizePA)
theorem r_stPA {w : World} {b : Nat} {old cs : Array Value} {T : TypeId} (hb : w.heap.size = b) (ho : old.size = 33) (hs : cs.size = 33) (h1 : OneC cs) : (stoOp 83 (.pointer (some ⟨b, 0, none⟩)) (.agg cs)).run Try.prog (w.alloc (.cells old T)) = .ok () (w.alloc (.cells cs T)) :=
  stOp_new hb (by rw [hs]; exact sizePA) (by rw [ho, hs]) h1
theorem r_alPA {w : World} : (alOp 83).run Try.prog w = .ok (.pointer (some ⟨w.heap.size, 0, none⟩)) (w.alloc (.cells zPA 83)) := alOp_run zeroPA
theorem r_bsPA {w : World} {cs : Array Value} (hs : cs.size = 33) : (bsOp 32 1 #[(0, .agg cs)]).run Try.prog w = .ok (.slice (some ⟨w.heap.size, 0, none⟩) 1 1) (w.alloc (.cells cs 83)) :=
  bsOp_one Try.underlying32 infoPA (by decide) (by decide) (by exact zPA_size) hs
theorem ePA : Elem Try.prog 32 83 (.agg zPA) 33 40 := ⟨by kernel_rfl, by kernel_rfl, rfl, by decide⟩
theorem r_ap {w : World} {a : Addr} {c : Nat} : (apOp 29 (.slice (some a) 32 c)).run Try.prog w = .ok (.pointer (some a)) w := apOp_run Try.underlying29 (Nat.le_refl _)
theorem r_cvM {w : World} {l : List UInt8} : (cvOp 9 35 (.string (str l))).run Try.prog w = .ok (.slice (some ⟨w.heap.size, 0, none⟩) l.length (cvC 5 w l)) (cvW 5 w l) := cvOp_run Try.underlying9 Try.underlying35 Try.underlying5
end Go.Proofs.Ytakliplkabgmbaa
set_option maxRecDepth 20000
namespace Go.Hd
theorem add_base0 (g i : Nat) : (hd (some ⟨g, 0, none⟩)).add i = ⟨g, i, none⟩ := by
  show Addr.add ⟨g, 0, none⟩ i = _
  rw [Addr.add_mid, Nat.zero_add]
def nameC (c : UInt8) : Bool := !(decide (c.toNat < 33)) && !(decide (126 < c.toNat)) && !(c == 47)
def nameB (s : List UInt8) : Bool := decide (1 ≤ s.length) && decide (s.length ≤ 32) && s.all nameC
def timelyB (t : Int) : Bool := decide (-1099511627776 ≤ t) && decide (t ≤ 1099511627776)
def nameE (s : List UInt8) : Int := if nameB s then 0 else 7
end Go.Hd
namespace Go.Proofs.Ytakliplkabgmbaa
open Go.RowKit Go.Hd
attribute [local go_sem ↓] h_cvM
attribute [local go_sem] r_cvM
set_option maxHeartbeats 1000000 in
theorem checkName_any (s : List UInt8) (w : World) (hs : s.length ≤ maxLen) :
    Calls Try.prog 10 #[.string (str s)] w fun e w' => e = .returned (.int .i64 (nameE s)) ∧ Below w.heap.size w w' := by
  have hz : (str s).size = s.length := str_size s
  have HN : Hid (nameE s = if nameB s then 0 else 7) := rfl
  by_cases h1 : s.length < 1
  · have i1 : (s.length : Int) < 1 := by omega
    have hR : Hid (nameE s = 7) := by show _ = _; rw [HN.out, if_neg]; unfold nameB; rw [decide_eq_false (by omega)]; simp
    clear h1 HN
    go_enter Try.func10, Try.ntmps10
    go_wp2
    go_ret
    exact ⟨by rw [hR.out] <;> rfl, Below.refl _ _⟩
  have i1 : ¬ (s.length : Int) < 1 := by omega
  by_cases h2 : 32 < s.length
  · have i2 : (32 : Int) < (s.length : Int) := by omega
    have hR : Hid (nameE s = 7) := by show _ = _; rw [HN.out, if_neg]; unfold nameB; rw [decide_eq_false (p := s.length ≤ 32) (by omega)]; simp
    clear h1 h2 HN
    go_enter Try.func10, Try.ntmps10
    go_wp2
    go_ret
    exact ⟨by rw [hR.out] <;> rfl, Below.refl _ _⟩
  have i2 : ¬ (32 : Int) < (s.length : Int) := by omega
  have hR0 : Hid (nameE s = if s.all nameC then 0 else 7) := by
    show _ = _
    rw [HN.out]; unfold nameB; rw [decide_eq_true (show 1 ≤ s.length by omega), decide_eq_true (show s.length ≤ 32 by omega)]; rfl
  have hrow : Hid (Row (cvW 5 w s) (some ⟨w.heap.size, 0, none⟩) (s.map b8)) := by
    obtain ⟨a, c, hv, _, _, hr⟩ := (cvW_own (E := 5) (w := w) (l := s) (Nat.le_refl _) hs).at
    cases hv
    exact hr
  have hb0 : Hid (Below w.heap.size w (cvW 5 w s)) := cvW_below _ _ _
  clear HN h1
  go_enter Try.func10, Try.ntmps10
  go_upto_block 1 with (fail)
  generalize cvW 5 w s = W at *
  generalize cvC 5 w s = C at *
  go_wp2
  go_loopw [16] (fun i wr => ∃ j : Nat, j ≤ s.length ∧ i = .int .i64 j ∧ Hid ((s.take j).all nameC = true) ∧ Hid (wr = W)) (fun i _ => s.length - (intOf i).toNat)
  case atStart => exact ⟨0, Nat.zero_le _, rfl, Lib.hid rfl, Lib.hid rfl⟩
  case round =>
    obtain ⟨j, hj, rfl, hall, hwr⟩ := hrel
    have hwr := hwr.out
    subst hwr
    have j0 : (0 : Int) ≤ (j : Int) := by omega
    have jb : IntKind.i64.wrap ((j : Int) + 1) = (j : Int) + 1 := IntWalk.i64_in _ (by omega)
    by_cases hlt : j < s.length
    · have j1 : (j : Int) < (s.length : Int) := by omega
      have q1 : wr.cell? ⟨w.heap.size, j, none⟩ = some (.int .u8 ((s[j]'hlt).toNat : Int)) := by
        have := hrow.out.byte hlt
        rwa [add_base0] at this
      have hA : Hid (nameC (s[j]'hlt) = true → (s.take (j + 1)).all nameC = true) := fun h => by
        rw [List.take_succ_eq_append_getElem hlt, List.all_append, hall.out]; simp [h]
      have hN : Hid (nameC (s[j]'hlt) = false → nameE s = 7) := fun h => by
        rw [hR0.out, if_neg]
        intro h2
        rw [List.all_eq_true.1 h2 _ (List.getElem_mem hlt)] at h; cases h
      have hv : Hid (nameC (s[j]'hlt) = (!(decide ((s[j]'hlt).toNat < 33)) && !(decide (126 < (s[j]'hlt).toNat)) && !((s[j]'hlt) == 47))) := rfl
      have t47 : (((s[j]'hlt).toNat : Int) == 47) = (s[j]'hlt == 47) := by
        rw [Bool.eq_iff_iff, beq_iff_eq, beq_iff_eq]
        exact ⟨fun h => UInt8.toNat_inj.1 (by have h47 : (47 : UInt8).toNat = 47 := rfl; omega), fun h => by rw [h]; rfl⟩
      clear hall hR0 hrow
      generalize (s[j]'hlt == 47) = b3 at *
      generalize nameC (s[j]'hlt) = b0 at *
      generalize (s[j]'hlt).toNat = x at *
      by_cases c1 : x < 33
      · have d1 : (x : Int) < 33 := by omega
        have hR := Lib.hid (hN.out (by rw [hv.out, decide_eq_true c1]; rfl))
        clear hA hN hv
        go_wp2
        go_ret
        exact ⟨by rw [hR.out] <;> rfl, hb0.out⟩
      · have d1 : ¬ (x : Int) < 33 := by omega
        by_cases c2 : 126 < x
        · have d2 : (126 : Int) < (x : Int) := by omega
          have hR := Lib.hid (hN.out (by rw [hv.out, decide_eq_true c2]; simp))
          clear hA hN hv
          go_wp2
          go_ret
          exact ⟨by rw [hR.out] <;> rfl, hb0.out⟩
        · have d2 : ¬ (126 : Int) < (x : Int) := by omega
          cases b3
          · have hA2 := Lib.hid (hA.out (by rw [hv.out, decide_eq_false c1, decide_eq_false c2]; rfl))
            clear hA hN hv
            go_wp2
            first
              | exact ⟨⟨j + 1, by omega, (by first | rfl | go_num | (congr 1; omega)), hA2, (by first | exact Lib.hid rfl | exact Lib.hid trivial)⟩, by simp [intOf] <;> omega⟩
              | (refine ⟨?_, by simp [intOf] <;> omega⟩; (repeat apply Exists.intro); exact ⟨⟨j + 1, by omega, (by first | rfl | go_num | (congr 1; omega)), hA2, (by first | exact Lib.hid rfl | exact Lib.hid trivial)⟩, rfl⟩)
          · have hR := Lib.hid (hN.out (by rw [hv.out]; simp))
            clear hA hN hv
            go_wp2
            go_ret
            exact ⟨by rw [hR.out] <;> rfl, hb0.out⟩
    · have j1 : ¬ (j : Int) < (s.length : Int) := by omega
      have hR : Hid (nameE s = 0) := by
        show _ = _
        have h := hall.out
        rw [show j = s.length by omega, List.take_length] at h
        rw [hR0.out, if_pos h]
      clear hall hR0
      go_wp2
      go_ret
      exact ⟨by rw [hR.out] <;> rfl, hb0.out⟩
set_option maxHeartbeats 1000000 in
theorem rname_any (s : List UInt8) (w : World) (hs : s.length ≤ 100000000) :
    Calls Try.prog 9 #[.string (str s)] w fun e w' => e = .returned (.bool (nameB s)) ∧ w = w' := by
  have hz : (str s).size = s.length := str_size s
  have HN : Hid (nameB s = (decide (1 ≤ s.length) && decide (s.length ≤ 32) && s.all nameC)) := rfl
  have HS := Lib.hid hs
  clear hs
  go_enter Try.func9, Try.ntmps9
  go_wp2
  go_loopw [3] (fun i wr => ∃ j : Nat, j ≤ s.length ∧ i = .int .i64 j ∧ Hid ((s.take j).all nameC = true) ∧ Hid (wr = w)) (fun i _ => s.length - (intOf i).toNat)
  case atStart => exact ⟨0, Nat.zero_le _, rfl, Lib.hid rfl, Lib.hid rfl⟩
  case round =>
    obtain ⟨j, hj, rfl, hall, hwr⟩ := hrel
    have hwr := hwr.out
    subst hwr
    have j0 : (0 : Int) ≤ (j : Int) := by omega
    have jb : IntKind.i64.wrap ((j : Int) + 1) = (j : Int) + 1 := IntWalk.i64_in _ (by have := HS.out; omega)
    by_cases hlt : j < s.length
    · have j1 : (j : Int) < (s.length : Int) := by omega
      have hsz : j < (str s).size := by rw [hz]; exact hlt
      have hat : ((str s)[j]'hsz) = s[j]'hlt := by show (str s).data[j] = _; simp [str]
      have hA : Hid (nameC ((str s)[j]'hsz) = true → (s.take (j + 1)).all nameC = true) := fun h => by
        rw [hat] at h
        rw [List.take_succ_eq_append_getElem hlt, List.all_append, hall.out]; simp [h]
      have hN : Hid (nameC ((str s)[j]'hsz) = false → nameB s = false) := fun h => by
        rw [hat] at h
        rw [HN.out]
        have : s.all nameC = false := by
          rcases Bool.eq_false_or_eq_true (s.all nameC) with h2 | h2
          · rw [List.all_eq_true.1 h2 _ (List.getElem_mem hlt)] at h; cases h
          · exact h2
        rw [this, Bool.and_false]
      have hv : Hid (nameC ((str s)[j]'hsz) = (!(decide (((str s)[j]'hsz).toNat < 33)) && !(decide (126 < ((str s)[j]'hsz).toNat)) && !(((str s)[j]'hsz) == 47))) := rfl
      have t47 : ((((str s)[j]'hsz).toNat : Int) == 47) = ((str s)[j]'hsz == 47) := by
        rw [Bool.eq_iff_iff, beq_iff_eq, beq_iff_eq]
        exact ⟨fun h => UInt8.toNat_inj.1 (by have h47 : (47 : UInt8).toNat = 47 := rfl; omega), fun h => by rw [h]; rfl⟩
      clear hall HN hat
      generalize ((str s)[j]'hsz == 47) = b3 at *
      generalize nameC ((str s)[j]'hsz) = b0 at *
      by_cases c1 : ((str s)[j]'hsz).toNat < 33
      · have d1 : (((str s)[j]'hsz).toNat : Int) < 33 := by omega
        have hR := Lib.hid (hN.out (by rw [hv.out, decide_eq_true c1]; rfl))
        clear hA hN hv
        go_wp2
        go_ret
        exact ⟨by rw [hR.out] <;> rfl, rfl⟩
      · have d1 : ¬ (((str s)[j]'hsz).toNat : Int) < 33 := by omega
        by_cases c2 : 126 < ((str s)[j]'hsz).toNat
        · have d2 : (126 : Int) < (((str s)[j]'hsz).toNat : Int) := by omega
          have hR := Lib.hid (hN.out (by rw [hv.out, decide_eq_true c2]; simp))
          clear hA hN hv
          go_wp2
          go_ret
          exact ⟨by rw [hR.out] <;> rfl, rfl⟩
        · have d2 : ¬ (126 : Int) < (((str s)[j]'hsz).toNat : Int) := by omega
          cases b3
          · have hA2 := Lib.hid (hA.out (by rw [hv.out, decide_eq_false c1, decide_eq_false c2]; rfl))
            clear hA hN hv
            go_wp2
            first
              | exact ⟨⟨j + 1, by omega, (by first | rfl | go_num | (congr 1; omega)), hA2, (by first | exact Lib.hid rfl | exact Lib.hid trivial)⟩, by simp [intOf] <;> omega⟩
              | (refine ⟨?_, by simp [intOf] <;> omega⟩; (repeat apply Exists.intro); exact ⟨⟨j + 1, by omega, (by first | rfl | go_num | (congr 1; omega)), hA2, (by first | exact Lib.hid rfl | exact Lib.hid trivial)⟩, rfl⟩)
          · have hR := Lib.hid (hN.out (by rw [hv.out]; simp))
            clear hA hN hv
            go_wp2
            go_ret
            exact ⟨by rw [hR.out] <;> rfl, rfl⟩
    · have j1 : ¬ (j : Int) < (s.length : Int) := by omega
      have hR : Hid (nameB s = (decide (1 ≤ s.length) && decide (s.length ≤ 32))) := by
        show _ = _
        have h := hall.out
        rw [show j = s.length by omega, List.take_length] at h
        rw [HN.out, h, Bool.and_true]
      clear hall HN
      by_cases e1 : 1 ≤ s.length
      · have f1 : (1 : Int) ≤ (s.length : Int) := by omega
        by_cases e2 : s.length ≤ 32
        · have f2 : (s.length : Int) ≤ 32 := by omega
          have hR2 : Hid (nameB s = true) := by show _ = _; rw [hR.out, decide_eq_true e1, decide_eq_true e2]; rfl
          clear hR
          go_wp2
          go_ret
          exact ⟨by rw [hR2.out] <;> rfl, rfl⟩
        · have f2 : ¬ (s.length : Int) ≤ 32 := by omega
          have hR2 : Hid (nameB s = false) := by show _ = _; rw [hR.out, decide_eq_true e1, decide_eq_false e2]; rfl
          clear hR
          go_wp2
          go_ret
          exact ⟨by rw [hR2.out] <;> rfl, rfl⟩
      · have f1 : ¬ (1 : Int) ≤ (s.length : Int) := by omega
        have hR2 : Hid (nameB s = false) := by show _ = _; rw [hR.out, decide_eq_false e1]; rfl
        clear hR
        go_wp2
        go_ret
        exact ⟨by rw [hR2.out] <;> rfl, rfl⟩
theorem timely_any (t : Int) (w : World) : Calls Try.prog 48 #[.int .i64 t] w fun e w' => e = .returned (.bool (timelyB t)) ∧ w = w' := by
  have hR : Hid (timelyB t = (decide (-1099511627776 ≤ t) && decide (t ≤ 1099511627776))) := rfl
  by_cases h1 : -1099511627776 ≤ t
  · by_cases h2 : t ≤ 1099511627776
    · have hR2 : Hid (timelyB t = true) := by show _ = _; rw [hR.out, decide_eq_true h1, decide_eq_true h2]; rfl
      go_enter Try.func48, Try.ntmps48
      go_wp2
      go_ret
      exact ⟨by rw [hR2.out] <;> rfl, rfl⟩
    · have hR2 : Hid (timelyB t = false) := by show _ = _; rw [hR.out, decide_eq_true h1, decide_eq_false h2]; rfl
      go_enter Try.func48, Try.ntmps48
      go_wp2
      go_ret
      exact ⟨by rw [hR2.out] <;> rfl, rfl⟩
  · have hR2 : Hid (timelyB t = false) := by show _ = _; rw [hR.out, decide_eq_false h1]; rfl
    go_enter Try.func48, Try.ntmps48
    go_wp2
    go_ret
    exact ⟨by rw [hR2.out] <;> rfl, rfl⟩
theorem rtimely_any (t : Int) (w : World) : Calls Try.prog 55 #[.int .i64 t] w fun e w' => e = .returned (.bool (timelyB t)) ∧ w = w' := by
  have hR : Hid (timelyB t = (decide (-1099511627776 ≤ t) && decide (t ≤ 1099511627776))) := rfl
  by_cases h1 : -1099511627776 ≤ t
  · by_cases h2 : t ≤ 1099511627776
    · have hR2 : Hid (timelyB t = true) := by show _ = _; rw [hR.out, decide_eq_true h1, decide_eq_true h2]; rfl
      go_enter Try.func55, Try.ntmps55
      go_wp2
      go_ret
      exact ⟨by rw [hR2.out] <;> rfl, rfl⟩
    · have hR2 : Hid (timelyB t = false) := by show _ = _; rw [hR.out, decide_eq_true h1, decide_eq_false h2]; rfl
      go_enter Try.func55, Try.ntmps55
      go_wp2
      go_ret
      exact ⟨by rw [hR2.out] <;> rfl, rfl⟩
  · have hR2 : Hid (timelyB t = false) := by show _ = _; rw [hR.out, decide_eq_false h1]; rfl
    go_enter Try.func55, Try.ntmps55
    go_wp2
    go_ret
    exact ⟨by rw [hR2.out] <;> rfl, rfl⟩
end Go.Proofs.Ytakliplkabgmbaa
set_option maxRecDepth 20000
namespace Go.Proofs.Ytakliplkabgmbaa
open Go.RowKit Go.Hd
theorem big_any (x n : Nat) (w : World) (hx : x < 18446744073709551616) (h1 : 1 ≤ n) (h8 : n ≤ 8) :
    Calls Try.prog 99 #[.int .u64 x, .int .i64 n] w fun e w' => ∃ v, e = .returned v ∧ Fresh w w' v (putL x n).reverse := by
  go_enter Try.func99, Try.ntmps99
  go_wp2_with fail
  refine (put_any _ _ _ hx h1 h8).mono ?_
  rintro e w1 ⟨v, rfl, hown, hb⟩
  rcases owns_bytes hown with ⟨_, h0⟩ | ⟨g, c, rest, rfl, hg, hB, hn, hm, hc⟩
  · have := putL_length x n; rw [h0] at this; simp at this; omega
  go_wp2_with fail
  refine (rev_any g n c (putL x n) rest w1 hB h1 (by simp) (by simp [maxLen]; omega)).mono ?_
  rintro e w2 ⟨rfl, hB2, hg2⟩
  go_wp2
  go_ret
  refine ⟨_, rfl, ?_, hb.trans ?_⟩
  · have h := hB2.ownsB (c := c) hg (by simpa using hn) hm (by simpa using hc)
    simpa using h
  · exact (Below.refl _ _).grown hg2 hb.size (fun k hk => by cases hk; exact hg)
theorem copy_any (a : Option Addr) (n c : Nat) (l : List UInt8) (w : World) (hn : n = l.length) (hl : Row w a (l.map b8)) (hm : l.length ≤ 140737488355328) :
    Calls Try.prog 20 #[.slice a n c] w fun e w' => ∃ v, e = .returned v ∧ Fresh w w' v l := by
  subst hn
  obtain ⟨v, w1, hrun, hown, hg⟩ := append_src (ty := 35) eB (World.ownsRow_nil w w.heap.size 5 1) (Src.ofRow eB.ht a l.length c (l.map b8) (by decide) (by simp) hl (bytes_one l)) (by unfold maxLen; omega) (by omega) (Nat.le_refl _)
  go_enter Try.func20, Try.ntmps20
  go_wp2_with (at_builtin; refine wpList_append_run hrun rfl rfl rfl rfl ?_)
  go_ret
  refine ⟨v, rfl, ?_, Below.ofGrown hg (World.ownsRow_nil w w.heap.size 5 1) (Nat.le_refl _)⟩
  simpa using hown
theorem clone_any (a : Option Addr) (n c : Nat) (l : List UInt8) (w : World) (hn : n = l.length) (hl : Row w a (l.map b8)) (hm : l.length ≤ 140737488355328) :
    Calls Try.prog 72 #[.slice a n c] w fun e w' => ∃ v, e = .returned v ∧ Fresh w w' v l := by
  subst hn
  cases a with
  | none =>
    have h0 : l = [] := by
      rcases List.eq_nil_or_concat l with h | ⟨_, _, h⟩
      · exact h
      · have := hl.1 (by rw [h]; simp); cases this
    subst h0
    have hq : ∀ w, (binOp .eql 35 (.slice none 0 c) (.slice none 0 0)).run Try.prog w = .ok (.bool true) w := fun w => Lib.run_eql_slice_nil (P := Try.prog) w 35 5 none 0 c 0 0 eB.ht
    go_enter Try.func72, Try.ntmps72
    go_wp2
    go_ret
    exact ⟨_, rfl, World.ownsRow_nil _ _ _ _, Below.refl _ _⟩
  | some a =>
    have hq := Lib.run_eql_slice_nil (P := Try.prog) w 35 5 (some a) l.length c 0 0 eB.ht
    have hB : Blk (w.alloc (.cells #[] 5)) w.heap.size 5 [] := Blk.new w _ #[]
    have ho : (w.alloc (.cells #[] 5)).ownsRow w.heap.size 5 1 (.slice (some ⟨w.heap.size, 0, none⟩) 0 0) 0 [] := World.ownsRow_made w #[] 0 (Nat.le_refl _) (by unfold maxLen; omega) rfl
    have hb0 : Below w.heap.size w (w.alloc (.cells #[] 5)) := (Below.refl _ _).alloc (Nat.le_refl _) _
    obtain ⟨v, w1, hrun, hown, hg⟩ := append_src (ty := 35) eB ho (Src.ofRow eB.ht (some a) l.length c (l.map b8) (by decide) (by simp) (hl.below hb0) (bytes_one l)) (by unfold maxLen; omega) (by omega) (by simp)
    go_enter Try.func72, Try.ntmps72
    go_wp2_with (at_builtin; refine wpList_append_run hrun rfl rfl rfl rfl ?_)
    go_ret
    refine ⟨v, rfl, ?_, hb0.trans (Below.ofGrown hg ho (by simp))⟩
    simpa using hown
theorem back_any (a : Option Addr) (n c : Nat) (l : List UInt8) (w : World) (hn : n = l.length) (hl : Row w a (l.map b8)) (hm : l.length ≤ 140737488355328) :
    Calls Try.prog 100 #[.slice a n c] w fun e w' => ∃ v, e = .returned v ∧ Fresh w w' v l.reverse := by
  subst hn
  go_enter Try.func100, Try.ntmps100
  go_wp2
  go_loopw [3, 4] (fun b i w' => ∃ k : Nat, k ≤ l.length ∧ i = .int .i64 ((k : Int) - 1) ∧ w'.ownsRow w.heap.size 5 1 b (l.drop k).reverse.length ((l.drop k).reverse.map b8) ∧ Below w.heap.size w w') (fun _ i _ => (intOf i + 1).toNat)
  case atStart => exact ⟨l.length, Nat.le_refl _, rfl, by simpa using World.ownsRow_nil _ _ _ _, Below.refl _ _⟩
  case round =>
    obtain ⟨k, hk, rfl, hown, hb⟩ := hrel
    by_cases hlt : 0 < k
    · have hk1 : k - 1 < l.length := by omega
      have hl1 := hl.below hb
      have c1 := hl1.byte hk1
      have s1 := hl1.byteSome hk1
      have hsz := hb.size
      have hlen : (l.drop k).reverse.length = l.length - k := by simp
      obtain ⟨v', w1, hrun, hown1, hg1⟩ := append_one (ty := 35) eB hown (b8 l[k - 1]) rfl (by unfold maxLen; omega) (by omega) hsz
      have hb1 := hb.trans (Below.ofGrown hg1 hown hsz)
      have HO : Hid (w1.ownsRow w.heap.size 5 1 v' (l.drop (k - 1)).reverse.length ((l.drop (k - 1)).reverse.map b8)) := by
        show w1.ownsRow _ _ _ _ _ _
        have e : l.drop (k - 1) = l[k - 1] :: l.drop k := by rw [List.drop_eq_getElem_cons hk1, Nat.sub_add_cancel (by omega)]
        rw [e]
        simpa using hown1
      obtain ⟨q, rfl⟩ : ∃ q, k = q + 1 := ⟨k - 1, by omega⟩
      simp only [Nat.add_sub_cancel] at *
      have hq : q < l.length := by omega
      clear hown hown1 hg1 hsz hl1 hlen
      go_wp2_with (at_builtin; refine wpList_append_run hrun rfl rfl rfl rfl ?_)
      first
        | exact ⟨⟨q, by omega, (by first | rfl | go_num | (congr 1; omega)), HO.out, hb1⟩, by simp [intOf] <;> omega⟩
        | (refine ⟨?_, by simp [intOf] <;> omega⟩; (repeat apply Exists.intro); exact ⟨⟨q, by omega, (by first | rfl | go_num | (congr 1; omega)), HO.out, hb1⟩, rfl⟩)
    · obtain rfl : k = 0 := by omega
      go_wp2
      go_ret
      exact ⟨_, rfl, hown, hb⟩
theorem get_any (a : Option Addr) (n c : Nat) (l : List UInt8) (w : World) (hn : n = l.length) (hl : Row w a (l.map b8)) (h1 : 1 ≤ l.length) (h8 : l.length ≤ 8) :
    Calls Try.prog 93 #[.slice a n c] w fun e w' => e = .returned (.tuple #[.int .u64 (getL l : Int), .bool true]) ∧ w = w' := by
  subst hn
  go_enter Try.func93, Try.ntmps93
  go_wp2
  go_loop [4, 17] (fun x i => ∃ k : Nat, k ≤ l.length ∧ i = .int .i64 k ∧ x = .int .u64 (getL (l.take k) : Int)) (fun _ i => l.length - (intOf i).toNat)
  case atStart => exact ⟨0, Nat.zero_le _, rfl, rfl⟩
  case round =>
    obtain ⟨k, hk, rfl, rfl⟩ := hrel
    by_cases hlt : k < l.length
    · have c1 := hl.byte hlt
      have s1 := hl.byteSome hlt
      have HS := Lib.hid (get_step l k hlt h8)
      have u1 := u8_le l[k]
      go_wp2
      first
        | exact ⟨⟨k + 1, by omega, (by first | rfl | go_num | (congr 1; omega)), by rw [← HS.out]⟩, by simp [intOf] <;> omega⟩
        | (refine ⟨?_, by simp [intOf] <;> omega⟩; (repeat apply Exists.intro); exact ⟨⟨k + 1, by omega, (by first | rfl | go_num | (congr 1; omega)), by rw [← HS.out]⟩, rfl⟩)
    · obtain rfl : k = l.length := by omega
      go_wp2
      go_ret2
      exact ⟨by simp, rfl⟩
theorem get_none (a : Option Addr) (n c : Nat) (w : World) (h : n < 1 ∨ 8 < n) :
    Calls Try.prog 93 #[.slice a n c] w fun e w' => e = .returned (.tuple #[.int .u64 0, .bool false]) ∧ w = w' := by
  rcases h with h | h
  · obtain rfl : n = 0 := by omega
    go_enter Try.func93, Try.ntmps93
    go_wp2
    go_ret2
    exact ⟨rfl, rfl⟩
  · go_enter Try.func93, Try.ntmps93
    go_wp2
    go_ret2
    exact ⟨rfl, rfl⟩
theorem rget_none (a : Option Addr) (n c : Nat) (w : World) (h : n < 1 ∨ 8 < n) :
    Calls Try.prog 102 #[.slice a n c] w fun e w' => e = .returned (.tuple #[.int .u64 0, .bool false]) ∧ w = w' := by
  rcases h with h | h
  · obtain rfl : n = 0 := by omega
    go_enter Try.func102, Try.ntmps102
    go_wp2
    go_ret2
    exact ⟨rfl, rfl⟩
  · have h2 : ((n : Int) == 0) = false := by simp; omega
    go_enter Try.func102, Try.ntmps102
    go_wp2
    go_ret2
    exact ⟨rfl, rfl⟩
theorem getbig_none (a : Option Addr) (n c : Nat) (w : World) (h : n < 1 ∨ 8 < n) :
    Calls Try.prog 96 #[.slice a n c] w fun e w' => e = .returned (.tuple #[.int .u64 0, .bool false]) ∧ w = w' := by
  rcases h with h | h
  · obtain rfl : n = 0 := by omega
    go_enter Try.func96, Try.ntmps96
    go_wp2
    go_ret2
    exact ⟨rfl, rfl⟩
  · go_enter Try.func96, Try.ntmps96
    go_wp2
    go_ret2
    exact ⟨rfl, rfl⟩
theorem rget_any (a : Option Addr) (n c : Nat) (l : List UInt8) (w : World) (hn : n = l.length) (hl : Row w a (l.map b8)) (h1 : 1 ≤ l.length) (h8 : l.length ≤ 8) :
    Calls Try.prog 102 #[.slice a n c] w fun e w' => e = .returned (.tuple #[.int .u64 (getL l : Int), .bool true]) ∧ w = w' := by
  subst hn
  have h2 : ((l.length : Int) == 0) = false := beq_eq_false_iff_ne.2 (by omega)
  go_enter Try.func102, Try.ntmps102
  go_wp2
  go_loop [4, 5] (fun x i => ∃ k : Nat, k ≤ l.length ∧ i = .int .i64 ((k : Int) - 1) ∧ x = .int .u64 (getL (l.drop k) : Int)) (fun _ i => (intOf i + 1).toNat)
  case atStart => exact ⟨l.length, Nat.le_refl _, rfl, by simp [getL]⟩
  case round =>
    obtain ⟨k, hk, rfl, rfl⟩ := hrel
    by_cases hlt : 0 < k
    · obtain ⟨q, rfl⟩ : ∃ q, k = q + 1 := ⟨k - 1, by omega⟩
      have hq : q < l.length := by omega
      have c1 := hl.byte hq
      have s1 := hl.byteSome hq
      have u1 := u8_le l[q]
      have u0 : 0 ≤ (l[q].toNat : Int) := by omega
      have hd := getL_drop l q hq
      have hs := getL_small (l.drop q) (by rw [List.length_drop]; omega)
      have b1 : (getL (l.drop (q + 1)) : Int) * 256 + (l[q].toNat : Int) ≤ 18446744073709551615 := by omega
      have HS := Lib.hid hd
      clear hd hs
      go_wp2
      first
        | exact ⟨⟨q, by omega, (by first | rfl | go_num | (congr 1; omega)), by rw [HS.out]; simp⟩, by simp [intOf] <;> omega⟩
        | (refine ⟨?_, by simp [intOf] <;> omega⟩; (repeat apply Exists.intro); exact ⟨⟨q, by omega, (by first | rfl | go_num | (congr 1; omega)), by rw [HS.out]; simp⟩, rfl⟩)
    · obtain rfl : k = 0 := by omega
      go_wp2
      go_ret2
      exact ⟨by simp, rfl⟩
theorem getbig_any (a : Option Addr) (n c : Nat) (l : List UInt8) (w : World) (hn : n = l.length) (hl : Row w a (l.map b8)) (h1 : 1 ≤ l.length) (h8 : l.length ≤ 8) :
    Calls Try.prog 96 #[.slice a n c] w fun e w' => e = .returned (.tuple #[.int .u64 (getL l.reverse : Int), .bool true]) ∧ w = w' := by
  subst hn
  go_enter Try.func96, Try.ntmps96
  go_wp2
  go_loop [4, 17] (fun x i => ∃ k : Nat, k ≤ l.length ∧ i = .int .i64 k ∧ x = .int .u64 (getL (l.take k).reverse : Int)) (fun _ i => l.length - (intOf i).toNat)
  case atStart => exact ⟨0, Nat.zero_le _, rfl, rfl⟩
  case round =>
    obtain ⟨k, hk, rfl, rfl⟩ := hrel
    by_cases hlt : k < l.length
    · have c1 := hl.byte hlt
      have s1 := hl.byteSome hlt
      have HS := Lib.hid (getBig_step l k hlt h8)
      have u1 := u8_le l[k]
      go_wp2
      first
        | exact ⟨⟨k + 1, by omega, (by first | rfl | go_num | (congr 1; omega)), by rw [← HS.out]⟩, by simp [intOf] <;> omega⟩
        | (refine ⟨?_, by simp [intOf] <;> omega⟩; (repeat apply Exists.intro); exact ⟨⟨k + 1, by omega, (by first | rfl | go_num | (congr 1; omega)), by rw [← HS.out]⟩, rfl⟩)
    · obtain rfl : k = l.length := by omega
      go_wp2
      go_ret2
      exact ⟨by simp, rfl⟩
end Go.Proofs.Ytakliplkabgmbaa
