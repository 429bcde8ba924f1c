/- Layer 05: a value's cells as the walks meet them; the walk of can. -/
import Derived.Test.YtakliplkabgmbaaV1
import Derived.Test.YtakliplkabgmbaaRows
import Derived.Test.YtakliplkabgmbaaLibA
import Derived.Test.YtakliplkabgmbaaW2
import Derived.Deep.DeepCutAuto
set_option maxRecDepth 20000
namespace Go.Proofs.Ytakliplkabgmbaa
open Go.RowKit Go.Hd

section
variable (ρ : Operand → Value) (dst : Option Tmp) (ty : TypeId) (pos : String) (after : Array Edge) (guard : Option (Nat × Bool))
theorem h_ldV (x : Operand) : execOp ρ { dst, op := .load 63 x, type := ty, pos, after, guard } = (do pure (.value (← ldOp 63 (ρ x)))) := rfl
theorem h_stV (x y : Operand) : execOp ρ { dst, op := .store 63 x y, type := ty, pos, after, guard } = (do stoOp 63 (ρ x) (ρ y); pure .skip) := rfl
theorem h_alV : execOp ρ { dst, op := .alloc 63, type := ty, pos, after, guard } = (do pure (.value (← alOp 63))) := rfl
end
def zV : Array Value := List.toArray (α := Value) [.int .i64 0, .int .i64 0, .slice none 0 0, strV [], .slice none 0 0, .slice none 0 0]
theorem zV_size : zV.size = 6 := by rfl
theorem infoV : (Try.prog.info? 63).map (fun i => (i.zero, i.size)) = some (some (.agg zV), 6) := by kernel_rfl
theorem sizeV : (Try.prog.info? 63).map (·.size) = some 6 := (zero_of_info infoV).2
theorem zeroV : (Try.prog.info? 63).bind (·.zero) = some (.agg zV) := by kernel_rfl
theorem r_ldV {w : World} {b : Nat} {cs : Array Value} {T : TypeId} (hb : w.heap.size = b) (hs : cs.size = 6) : (ldOp 63 (.pointer (some ⟨b, 0, none⟩))).run Try.prog (w.alloc (.cells cs T)) = .ok (.agg cs) (w.alloc (.cells cs T)) :=
  ldOp_new hb Try.underlying63 rfl (by rw [hs]; exact sizeV)
theorem r_stV {w : World} {b : Nat} {old cs : Array Value} {T : TypeId} (hb : w.heap.size = b) (ho : old.size = 6) (hs : cs.size = 6) (h1 : OneC cs) : (stoOp 63 (.pointer (some ⟨b, 0, none⟩)) (.agg cs)).run Try.prog (w.alloc (.cells old T)) = .ok () (w.alloc (.cells cs T)) :=
  stOp_new hb (by rw [hs]; exact sizeV) (by rw [ho, hs]) h1
theorem r_alV {w : World} : (alOp 63).run Try.prog w = .ok (.pointer (some ⟨w.heap.size, 0, none⟩)) (w.alloc (.cells zV 63)) := alOp_run zeroV
attribute [local go_sem ↓] h_ldV h_stV h_alV
attribute [local go_sem] r_ldV r_stV r_alV

theorem canF_bad {d : Nat} {k n : Int} {b t : List UInt8} {ks : List (List UInt8)} {l : List PV} (h : ¬ (0 ≤ k ∧ k ≤ 7)) : canF d (.mk k n b t ks l) = false := by
  cases d with
  | zero => rfl
  | succ d => simp [canF, PV.kind, h]
theorem canF_map {d : Nat} {n : Int} {b t : List UInt8} {ks : List (List UInt8)} {l : List PV} (h : ¬ (ks.length = l.length ∧ risesT ks = true)) : canF d (.mk 7 n b t ks l) = false := by
  cases d with
  | zero => rfl
  | succ d =>
    simp only [canF, PV.kind, PV.keys, PV.list]
    have : (ks.length == l.length && risesT ks) = false := by
      cases h2 : (ks.length == l.length && risesT ks) with
      | false => rfl
      | true => simp at h2; exact absurd h2 h
    rw [this]; rfl
theorem canF_many {d : Nat} {k n : Int} {b t : List UInt8} {ks : List (List UInt8)} {l : List PV} (h6 : 6 ≤ k) (h7 : k ≤ 7) (h : k = 7 → ks.length = l.length ∧ risesT ks = true) : canF (d + 1) (.mk k n b t ks l) = l.all (canF d) := by
  show (decide (0 ≤ k ∧ k ≤ 7) && (k != 7 || (ks.length == l.length && risesT ks)) && (decide (k < 6) || l.all (canF d))) = _
  have e1 : decide (0 ≤ k ∧ k ≤ 7) = true := decide_eq_true ⟨by omega, h7⟩
  have e2 : decide (k < 6) = false := decide_eq_false (by omega)
  have e3 : (k != 7 || (ks.length == l.length && risesT ks)) = true := by
    by_cases hk : k = 7
    · obtain ⟨h1, h2⟩ := h hk; simp [h1, h2]
    · simp [hk]
  rw [e1, e2, e3]; simp
theorem canF_flat {d : Nat} {k n : Int} {b t : List UInt8} {ks : List (List UInt8)} {l : List PV} (h0 : 0 ≤ k) (h6 : k < 6) : canF (d + 1) (.mk k n b t ks l) = true := by
  show (decide (0 ≤ k ∧ k ≤ 7) && (k != 7 || (ks.length == l.length && risesT ks)) && (decide (k < 6) || l.all (canF d))) = _
  have e1 : decide (0 ≤ k ∧ k ≤ 7) = true := decide_eq_true ⟨h0, by omega⟩
  have e2 : decide (k < 6) = true := decide_eq_true h6
  have e3 : (k != 7) = true := by simp; omega
  rw [e1, e2, e3]; rfl
theorem risesT_not {ks : List (List UInt8)} {j : Nat} (h : risesT (ks.take j) = false) : risesT ks = false := by
  rcases Bool.eq_false_or_eq_true (risesT ks) with h2 | h2
  · rw [risesT_of ks j h2] at h; cases h
  · exact h2

set_option maxHeartbeats 2000000 in
theorem can_any {w : World} {cs : List Value} {v : PV} (h : VAt w cs v) : ∀ (d : Nat) (w' : World), d ≤ 1000 → Below w.heap.size w w' →
    Calls Try.prog 49 #[.agg cs.toArray, .int .i64 (d : Int)] w' fun e w'' => e = .returned (.bool (canF d v)) ∧ Below w'.heap.size w' w'' := by
  induction h with
  | @mk k n b t ks l ab ak al cb ck cl css hk hn hb hbc ht hks hkc hkt hl hlc hcs h6 sub ih =>
  intro d w' hdd hbw
  have hb0 : Below w'.heap.size w' (w'.alloc (.cells (List.toArray (α := Value) [.int .i64 k, .int .i64 n, .slice ab b.length cb, strV t, .slice ak ks.length ck, .slice al l.length cl]) 63)) := (Below.refl _ _).alloc (Nat.le_refl _) _
  have B0 : Blk (w'.alloc (.cells (List.toArray (α := Value) [.int .i64 k, .int .i64 n, .slice ab b.length cb, strV t, .slice ak ks.length ck, .slice al l.length cl]) 63)) w'.heap.size 63 [.int .i64 k, .int .i64 n, .slice ab b.length cb, strV t, .slice ak ks.length ck, .slice al l.length cl] := Blk.new _ _ _
  generalize hS : strV t = S at *
  have hSo : S.oneCell' = true := by rw [← hS]; rfl
  clear hS
  go_enter Try.func49, Try.ntmps49
  go_upto_region 1 with (fail)
  generalize w'.alloc (.cells (List.toArray (α := Value) [.int .i64 k, .int .i64 n, .slice ab b.length cb, S, .slice ak ks.length ck, .slice al l.length cl]) 63) = W at *
  have c0 : W.cell? ⟨w'.heap.size, 0, none⟩ = some (.int .i64 k) := B0.cell rfl
  have c4 : W.cell? ⟨w'.heap.size, 4, none⟩ = some (.slice ak ks.length ck) := B0.cell rfl
  have c5 : W.cell? ⟨w'.heap.size, 5, none⟩ = some (.slice al l.length cl) := B0.cell rfl
  by_cases hr : 0 ≤ k ∧ k ≤ 7
  · obtain ⟨k0, k7⟩ := hr
    have g0 : ¬ k < 0 := by omega
    have g7 : ¬ 7 < k := by omega
    cases d with
    | zero =>
      go_wp2
      go_ret
      exact ⟨rfl, hb0⟩
    | succ d =>
      have gd : (((d + 1 : Nat) : Int) == 0) = false := beq_eq_false_iff_ne.2 (by omega)
      have HMAP := Lib.hid (fun h => canF_map (d := d + 1) (n := n) (b := b) (t := t) (ks := ks) (l := l) h)
      go_upto_if 23 with (fail)
      go_cut [4] (fun _ wx => (Blk wx w'.heap.size 63 [.int .i64 k, .int .i64 n, .slice ab b.length cb, S, .slice ak ks.length ck, .slice al l.length cl] ∧ Below w'.heap.size w' wx) ∧ (k = 7 → ks.length = l.length ∧ risesT ks = true))
      case first =>
        by_cases h7 : k = 7
        · subst h7
          by_cases hkl : ks.length = l.length
          · have t1 : ((ks.length : Int) != (l.length : Int)) = false := by rw [hkl]; simp
            have HKL := Lib.hid hkl
            clear hkl
            go_wp2
            go_loopw [34] (fun i wr => ∃ j : Nat, j ≤ ks.length ∧ i = .int .i64 j ∧ risesT (ks.take j) = true ∧ Blk wr w'.heap.size 63 [.int .i64 7, .int .i64 n, .slice ab b.length cb, S, .slice ak ks.length ck, .slice al l.length cl] ∧ Below w'.heap.size w' wr) (fun i _ => ks.length - (intOf i).toNat)
            case atStart => exact ⟨0, Nat.zero_le _, rfl, by rw [List.take_zero]; rfl, B0, hb0⟩
            case round =>
              obtain ⟨j, hj, rfl, hri, BK, hbk⟩ := hrel
              have c0 : wr.cell? ⟨w'.heap.size, 0, none⟩ = some (.int .i64 7) := BK.cell rfl
              have c4 : wr.cell? ⟨w'.heap.size, 4, none⟩ = some (.slice ak ks.length ck) := BK.cell rfl
              by_cases hlt : j < ks.length
              · have hrowk := hks.below (hbw.trans (hbk.mono hbw.size))
                have q1 : wr.cell? ((hd ak).add j) = some (strV ks[j]) := hrowk.cell (by simp [hlt])
                have s1 : ak.isSome = true := hrowk.isSome (i := j) (by simpa using hlt)
                have j0 : (0 : Int) ≤ (j : Int) := by omega
                have j1 : (j : Int) < (ks.length : Int) := by omega
                unfold strV at q1
                by_cases hj0 : j = 0
                · subst hj0
                  have HL := Lib.hid (risesT_one ks)
                  have ib : (1 : Int) ≤ (ks.length : Int) := by omega
                  have q1' : wr.cell? (hd ak) = some (.string (str ks[0])) := by have h := q1; simp only [Addr.add] at h; simpa using h
                  have n0 : (0 : Int) < (ks.length : Int) := by omega
                  generalize ks[0] = x at *
                  clear hri
                  go_wp2
                  first
                    | exact ⟨⟨0 + 1, by omega, (by first | rfl | go_num | (congr 1; omega)), HL.out, BK, hbk⟩, by simp [intOf] <;> omega⟩
                    | (refine ⟨?_, by simp [intOf] <;> omega⟩; (repeat apply Exists.intro); exact ⟨⟨0 + 1, by omega, (by first | rfl | go_num | (congr 1; omega)), HL.out, BK, hbk⟩, rfl⟩)
                · obtain ⟨i, rfl⟩ : ∃ i, j = i + 1 := ⟨j - 1, by omega⟩
                  have hil : i < ks.length := by omega
                  have q0 : wr.cell? ((hd ak).add i) = some (strV ks[i]) := hrowk.cell (by simp [hil])
                  unfold strV at q0
                  have HT := Lib.hid (risesT_take ks i hlt)
                  have HN := Lib.hid (fun h => risesT_not (ks := ks) (j := i + 2) h)
                  have HRI := Lib.hid hri
                  have ew : IntKind.i64.wrap (i : Int) = (i : Int) := IntWalk.i64_in _ (by unfold maxLen at hkc; omega)
                  have ew1 : IntKind.i64.wrap ((i : Int) + 1 - 1) = (i : Int) := by rw [IntWalk.i64_in _ (by unfold maxLen at hkc; omega)]; omega
                  have i0 : (0 : Int) ≤ (i : Int) := by omega
                  have i1 : (i : Int) < (ks.length : Int) := by omega
                  have i4 : ((i : Int) + 1).toNat = i + 1 := by omega
                  have i5 : (0 : Int) < (i : Int) + 1 := by omega
                  have i2 : (0 : Int) ≤ (i : Int) + 1 := by omega
                  have i3 : (i : Int) + 1 < (ks.length : Int) := by omega
                  have q1' : wr.cell? ⟨(hd ak).block, (hd ak).off + (i + 1), none⟩ = some (.string (str ks[i + 1])) := by have h := q1; simp only [Addr.add] at h; simpa using h
                  have ib : (i : Int) + 1 + 1 ≤ 9223372036854775807 := by unfold maxLen at hkc; omega
                  have ew2 : IntKind.i64.wrap ((i : Int) + 1 + 1) = (i : Int) + 1 + 1 := IntWalk.i64_in _ (by omega)
                  generalize ks[i] = x at *
                  generalize ks[i + 1] = y at *
                  clear hri
                  have HLE : Hid (leT y x = (Op.bytesLess (str y).toList (str x).toList || (str y).toList == (str x).toList)) := rfl
                  rcases Bool.eq_false_or_eq_true (Op.bytesLess (str y).toList (str x).toList) with hA | hA
                  · have HR := Lib.hid (HMAP.out (fun h => by
                      have h1 := HN.out (by rw [HT.out, HRI.out, HLE.out, hA]; rfl)
                      rw [h1] at h
                      exact absurd h.2 (by decide)))
                    go_wp2
                    go_ret
                    exact ⟨by rw [HR.out]; rfl, hbk⟩
                  · rcases Bool.eq_false_or_eq_true ((str y).toList == (str x).toList) with hB | hB
                    · have HR := Lib.hid (HMAP.out (fun h => by
                        have h1 := HN.out (by rw [HT.out, HRI.out, HLE.out, hA, hB]; rfl)
                        rw [h1] at h
                        exact absurd h.2 (by decide)))
                      go_wp2
                      go_ret
                      exact ⟨by rw [HR.out]; rfl, hbk⟩
                    · have HL : Hid (risesT (ks.take (i + 1 + 1)) = true) := by
                        show _ = _
                        rw [HT.out, HRI.out, HLE.out, hA, hB]; rfl
                      go_wp2
                      first
                        | exact ⟨⟨i + 1 + 1, by omega, (by first | rfl | go_num | (congr 1; omega)), HL.out, BK, hbk⟩, by simp [intOf] <;> omega⟩
                        | (refine ⟨?_, by simp [intOf] <;> omega⟩; (repeat apply Exists.intro); exact ⟨⟨i + 1 + 1, by omega, (by first | rfl | go_num | (congr 1; omega)), HL.out, BK, hbk⟩, rfl⟩)
              · obtain rfl : j = ks.length := by omega
                rw [List.take_length] at hri
                go_wp2
                go_meet
                exact ⟨⟨BK, hbk⟩, fun _ => ⟨HKL.out, hri⟩⟩
          · have t1 : ((ks.length : Int) != (l.length : Int)) = true := by simpa using fun h => hkl (by exact_mod_cast h)
            have HR := Lib.hid (HMAP.out (fun h => hkl h.1))
            clear hkl
            go_wp2
            go_ret
            exact ⟨by rw [HR.out]; rfl, hb0⟩
        · have t1 : (k == 7) = false := beq_eq_false_iff_ne.2 h7
          go_wp2
          go_meet
          exact ⟨⟨B0, hb0⟩, fun h => absurd h h7⟩
      case rest =>
        clear B0 hb0 c0 c4 c5
        obtain ⟨⟨B0, hb0⟩, hmap⟩ := hcut
        have c0 : wc.cell? ⟨w'.heap.size, 0, none⟩ = some (.int .i64 k) := B0.cell rfl
        have c5 : wc.cell? ⟨w'.heap.size, 5, none⟩ = some (.slice al l.length cl) := B0.cell rfl
        by_cases hk6 : 6 ≤ k
        · have HM := Lib.hid (canF_many (d := d) (n := n) (b := b) (t := t) hk6 k7 hmap)
          clear hmap
          go_wp2
          go_loopw [58] (fun i wr => ∃ j : Nat, j ≤ l.length ∧ i = .int .i64 j ∧ (l.take j).all (canF d) = true ∧ Below w'.heap.size w' wr) (fun i _ => l.length - (intOf i).toNat)
          case atStart => exact ⟨0, Nat.zero_le _, rfl, by rw [List.take_zero]; rfl, hb0⟩
          case round =>
            obtain ⟨j, hj, rfl, hri, hb⟩ := hrel
            by_cases hlt : j < l.length
            · have hcj : css[j]? = some (css[j]'(by omega)) := by simp
              have hvj : l[j]? = some l[j] := by simp [hlt]
              have IH := ih j _ _ hcj hvj d
              have hrow := hl.below (hbw.trans (hb.mono hbw.size))
              have s1 := hrow.elemSome (s := 6) h6 (by decide) (i := j) (by omega)
              have q1 := ldOp_at (P := Try.prog) (ty := 63) (hrow.elem (s := 6) h6 hcj) Try.underlying63 rfl (by rw [h6 _ (List.getElem_mem _)]; exact sizeV)
              have x6 : (css[j]'(by omega)).toArray.size = 6 := by simpa using h6 _ (List.getElem_mem _)
              have xo : OneC (css[j]'(by omega)).toArray := all_oneCell_toArray (sub j _ _ hcj hvj).one
              have HA : Hid ((l.take (j + 1)).all (canF d) = ((l.take j).all (canF d) && canF d l[j])) := by
                show _ = _
                rw [List.take_succ_eq_append_getElem hlt, List.all_append]; simp
              have HN : Hid (canF d l[j] = false → l.all (canF d) = false) := by
                intro h
                rcases Bool.eq_false_or_eq_true (l.all (canF d)) with h2 | h2
                · rw [List.all_eq_true.1 h2 _ (List.getElem_mem hlt)] at h; cases h
                · exact h2
              have HRI := Lib.hid hri
              have zs := zV_size
              have hsz := hb.size
              have j0 : (0 : Int) ≤ (j : Int) := by omega
              have j1 : (j : Int) < (l.length : Int) := by omega
              have jb : (j : Int) + 1 ≤ 9223372036854775807 := by unfold maxLen at hlc; omega
              have ew2 : IntKind.i64.wrap ((j : Int) + 1) = (j : Int) + 1 := IntWalk.i64_in _ (by omega)
              have ew : IntKind.i64.wrap (d : Int) = (d : Int) := IntWalk.i64_in _ (by omega)
              have ew1 : IntKind.i64.wrap ((d : Int) + 1 - 1) = (d : Int) := by rw [IntWalk.i64_in _ (by omega)]; omega
              have hbC : Below w.heap.size w wr := hbw.trans (hb.mono hbw.size)
              generalize css[j]'(by omega) = c at *
              generalize l[j] = v at *
              clear hri hcj hvj hrow
              go_wp2_with fail
              refine (IH _ (by omega) (hbC.alloc hbC.size _)).mono ?_
              rintro e w5 ⟨rfl, hb5⟩
              have hbw5 : Below w'.heap.size w' w5 := (hb.alloc hsz _).trans (hb5.mono (by simp; omega))
              rcases Bool.eq_false_or_eq_true (canF d v) with h | h
              · have HL : Hid ((l.take (j + 1)).all (canF d) = true) := by show _ = _; rw [HA.out, HRI.out, h]; rfl
                rw [h]
                go_wp2
                first
                  | exact ⟨⟨j + 1, by omega, (by first | rfl | go_num | (congr 1; omega)), HL.out, hbw5⟩, by simp [intOf] <;> omega⟩
                  | (refine ⟨?_, by simp [intOf] <;> omega⟩; (repeat apply Exists.intro); exact ⟨⟨j + 1, by omega, (by first | rfl | go_num | (congr 1; omega)), HL.out, hbw5⟩, rfl⟩)
              · have HR := Lib.hid (HM.out.trans (HN.out h))
                rw [h]
                go_wp2
                go_ret
                exact ⟨by rw [HR.out]; rfl, hbw5⟩
            · obtain rfl : j = l.length := by omega
              rw [List.take_length] at hri
              go_wp2
              go_ret
              exact ⟨by rw [HM.out, hri]; rfl, hb⟩
        · have HM := Lib.hid (canF_flat (d := d) (n := n) (b := b) (t := t) (ks := ks) (l := l) k0 (by omega))
          have g6 : ¬ 6 ≤ k := hk6
          go_wp2
          go_ret
          exact ⟨by rw [HM.out]; rfl, hb0⟩
  · have HR := Lib.hid (canF_bad (d := d) (n := n) (b := b) (t := t) (ks := ks) (l := l) hr)
    by_cases g0 : k < 0
    · clear hr
      go_wp2
      go_ret
      exact ⟨by rw [HR.out]; rfl, hb0⟩
    · have g7 : 7 < k := by omega
      clear hr
      go_wp2
      go_ret
      exact ⟨by rw [HR.out]; rfl, hb0⟩
end Go.Proofs.Ytakliplkabgmbaa
