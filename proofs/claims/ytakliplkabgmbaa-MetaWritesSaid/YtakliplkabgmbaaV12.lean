/- Layer 05: the document's rises, Can. -/
import Derived.Test.YtakliplkabgmbaaV11
set_option maxRecDepth 20000
namespace Go.Proofs.Ytakliplkabgmbaa
open Go.RowKit Go.Hd
attribute [local go_sem ↓] h_ldV h_stV h_alV
attribute [local go_sem] r_ldV r_stV r_alV

theorem risesT_two (ks : List (List UInt8)) (i : Nat) (h : i + 1 < ks.length) (hr : risesT (ks.take (i + 1)) = true) : risesT (ks.take (i + 2)) = !leT ks[i + 1] ks[i] := by
  rw [risesT_take ks i h, hr, Bool.true_and]
set_option maxHeartbeats 1000000 in
theorem rrises_any {w : World} {ak : Option Addr} {ks : List (List UInt8)} {ck : Nat} (hks : Row w ak (ks.map strV)) (hm : ks.length ≤ maxLen) :
    Calls Try.prog 73 #[.slice ak ks.length ck] w fun e w' => e = .returned (.bool (risesT ks)) ∧ ∃ n, w' = w.drewN n := by
  unfold maxLen at hm
  go_enter Try.func73, Try.ntmps73
  go_wp2
  go_loopw [3] (fun i wr => ∃ j : Nat, i = .int .i64 ((j : Int) + 1) ∧ (j = 0 ∨ j + 1 ≤ ks.length) ∧ risesT (ks.take (j + 1)) = true ∧ ∃ n, wr = w.drewN n) (fun i _ => ks.length - (intOf i).toNat)
  case atStart => exact ⟨0, rfl, .inl rfl, risesT_one ks, 0, rfl⟩
  case round =>
    obtain ⟨j, rfl, hj, hri, n, hwr⟩ := hrel
    have hrow : Row wr ak (ks.map strV) := by rw [hwr]; exact hks.drewN n
    have HW := Lib.hid hwr
    have j0 : (0 : Int) ≤ (j : Int) := by omega
    have ew : IntKind.i64.wrap (j : Int) = (j : Int) := IntWalk.i64_in _ (by omega)
    clear hwr
    by_cases hlt : j + 1 < ks.length
    · have q0 : wr.cell? ((hd ak).add j) = some (strV (ks[j]'(by omega))) := hrow.cell (by rw [List.getElem?_map, List.getElem?_eq_getElem (by omega)]; rfl)
      have q1 : wr.cell? ((hd ak).add (j + 1)) = some (strV ks[j + 1]) := hrow.cell (by rw [List.getElem?_map, List.getElem?_eq_getElem hlt]; rfl)
      have s1 : ak.isSome = true := hrow.isSome (i := j) (by simp; omega)
      unfold strV at q0 q1
      have HT := Lib.hid (risesT_two ks j hlt hri)
      have HN := Lib.hid (fun h => risesT_not (ks := ks) (j := j + 2) h)
      have ew1 : IntKind.i64.wrap ((j : Int) + 1 - 1) = (j : Int) := by rw [IntWalk.i64_in _ (by omega)]; omega
      have ew2 : IntKind.i64.wrap ((j : Int) + 1 + 1) = (j : Int) + 1 + 1 := IntWalk.i64_in _ (by omega)
      have i1 : (j : Int) < (ks.length : Int) := by omega
      have i2 : (0 : Int) ≤ (j : Int) + 1 := by omega
      have i3 : (j : Int) + 1 < (ks.length : Int) := by omega
      have i4 : ((j : Int) + 1).toNat = j + 1 := by omega
      have q1' : wr.cell? ⟨(hd ak).block, (hd ak).off + (j + 1), none⟩ = some (.string (str ks[j + 1])) := by have h := q1; simp only [Addr.add] at h; simpa using h
      generalize ks[j] = x at *
      generalize ks[j + 1] = y at *
      clear hri hj
      have HLE : Hid (leT y x = (Op.bytesLess (str y).toList (str x).toList || (str y).toList == (str x).toList)) := rfl
      rcases Bool.eq_false_or_eq_true (Op.bytesLess (str y).toList (str x).toList) with hA | hA
      · have HR : Hid (risesT ks = false) := HN.out (by rw [HT.out, HLE.out, hA]; rfl)
        go_wp2
        go_quiet (fail)
        go_wp2
        go_ret
        exact ⟨by rw [HR.out]; rfl, n + nq, by rw [HW.out]; first | rfl | rw [drewN_two]⟩
      · rcases Bool.eq_false_or_eq_true ((str y).toList == (str x).toList) with hB | hB
        · have HR : Hid (risesT ks = false) := HN.out (by rw [HT.out, HLE.out, hA, hB]; rfl)
          go_wp2
          go_quiet (fail)
          go_wp2
          go_ret
          exact ⟨by rw [HR.out]; rfl, n + nq, by rw [HW.out]; first | rfl | rw [drewN_two]⟩
        · have HL : Hid (risesT (ks.take (j + 1 + 1)) = true) := by
            show _ = _
            rw [HT.out, HLE.out, hA, hB]; rfl
          go_wp2
          go_quiet (fail)
          go_wp2
          go_roundw
          case rel => exact ⟨j + 1, by go_num, .inr hlt, HL.out, n + nq, by rw [HW.out]; first | rfl | rw [drewN_two]⟩
          case measure => simp [intOf]; omega
    · have HR : Hid (risesT ks = true) := by
        show _ = _
        rw [List.take_of_length_le (by omega)] at hri; exact hri
      have i3 : ¬ (j : Int) + 1 < (ks.length : Int) := by omega
      clear hri hj hlt hrow
      go_wp2
      go_ret
      exact ⟨by rw [HR.out]; rfl, n, HW.out⟩

set_option maxHeartbeats 2000000 in
theorem rcan_any {w0 : World} {cs : List Value} {v : PV} (h : VAt w0 cs v) : ∀ (d p : Nat) (w : World), p + d = 17 → Below w0.heap.size w0 w →
    Calls Try.prog 56 #[.agg cs.toArray, .int .i64 (p : Int)] w fun e w' => e = .returned (.bool (canF d v)) ∧ Below w.heap.size w w' := by
  induction h with
  | @mk k n b t ks l ab ak al cb ck cl css hk hn hb hbc ht hks hkc hkt hl hlc hcs h6 sub ih =>
  intro d p w hpd hbw
  have hb0 : Below w.heap.size w (w.alloc (.cells (List.toArray (α := Value) [.int .i64 k, .int .i64 n, .slice ab b.length cb, strV t, .slice ak ks.length ck, .slice al l.length cl]) 63)) := (Below.refl _ _).alloc (Nat.le_refl _) _
  have B0 : Blk (w.alloc (.cells (List.toArray (α := Value) [.int .i64 k, .int .i64 n, .slice ab b.length cb, strV t, .slice ak ks.length ck, .slice al l.length cl]) 63)) w.heap.size 63 [.int .i64 k, .int .i64 n, .slice ab b.length cb, strV t, .slice ak ks.length ck, .slice al l.length cl] := Blk.new _ _ _
  generalize hS : strV t = S at *
  have hSo : S.oneCell' = true := by rw [← hS]; rfl
  clear hS
  go_enter Try.func56, Try.ntmps56
  go_upto_region 1 with (fail)
  generalize w.alloc (.cells (List.toArray (α := Value) [.int .i64 k, .int .i64 n, .slice ab b.length cb, S, .slice ak ks.length ck, .slice al l.length cl]) 63) = W at *
  have c0 : W.cell? ⟨w.heap.size, 0, none⟩ = some (.int .i64 k) := B0.cell rfl
  have c4 : W.cell? ⟨w.heap.size, 4, none⟩ = some (.slice ak ks.length ck) := B0.cell rfl
  have c5 : W.cell? ⟨w.heap.size, 5, none⟩ = some (.slice al l.length cl) := B0.cell rfl
  cases d with
  | zero =>
    obtain rfl : p = 17 := by omega
    go_wp2
    go_ret
    exact ⟨rfl, hb0⟩
  | succ d =>
  have g16 : ¬ 16 < (p : Int) := by omega
  by_cases hr : 0 ≤ k ∧ k ≤ 7
  · obtain ⟨k0, k7⟩ := hr
    have g0 : ¬ k < 0 := by omega
    have g7 : ¬ 7 < k := by omega
    have HMAP := Lib.hid (fun h => canF_map (d := d + 1) (n := n) (b := b) (t := t) (ks := ks) (l := l) h)
    go_upto_region 3 with (fail)
    go_cut [35] (fun u wx => (∃ bad : Bool, u = .bool bad ∧ (bad = true → k = 7 ∧ ¬ (ks.length = l.length ∧ risesT ks = true)) ∧ (bad = false → k = 7 → ks.length = l.length ∧ risesT ks = true)) ∧ Blk wx w.heap.size 63 [.int .i64 k, .int .i64 n, .slice ab b.length cb, S, .slice ak ks.length ck, .slice al l.length cl] ∧ Below w.heap.size w wx)
    case first =>
      by_cases h7 : k = 7
      · subst h7
        by_cases hkl : ks.length = l.length
        · have t1 : ((ks.length : Int) != (l.length : Int)) = false := by rw [hkl]; simp
          have HKL := Lib.hid hkl
          clear hkl
          go_wp2_with fail
          refine (rrises_any (hks.below (hbw.trans (hb0.mono hbw.size))) (Nat.le_trans hkc.1 hkc.2) |> fun h => h.mono ?_)
          rintro e w1 ⟨rfl, nd, rfl⟩
          rcases Bool.eq_false_or_eq_true (risesT ks) with hr | hr
          · rw [hr]
            go_wp2
            go_meet
            exact ⟨⟨false, rfl, (by simp), fun _ _ => ⟨HKL.out, hr⟩⟩, B0.drewN _, Below.drewN hb0 _⟩
          · rw [hr]
            go_wp2
            go_meet
            exact ⟨⟨true, rfl, fun _ => ⟨by trivial, fun h => by rw [hr] at h; exact absurd h.2 (by decide)⟩, (by simp)⟩, B0.drewN _, Below.drewN hb0 _⟩
        · have t1 : ((ks.length : Int) != (l.length : Int)) = true := by simpa using fun h => hkl (by exact_mod_cast h)
          go_wp2
          go_meet
          exact ⟨⟨true, rfl, fun _ => ⟨by trivial, fun h => hkl h.1⟩, (by simp)⟩, B0, hb0⟩
      · have t1 : (k == 7) = false := beq_eq_false_iff_ne.2 h7
        go_wp2
        go_meet
        exact ⟨⟨false, rfl, (by simp), fun _ h => absurd h h7⟩, B0, hb0⟩
    case rest =>
      clear B0 hb0 c0 c4 c5
      obtain ⟨⟨bad, rfl, hbad, hgood⟩, B0, hb0⟩ := hcut
      cases bad with
      | true =>
        obtain ⟨h7, hno⟩ := hbad rfl
        have HR : Hid (canF (d + 1) (.mk k n b t ks l) = false) := by show _ = _; subst h7; exact HMAP.out hno
        clear hno hgood h7 hbad HMAP
        go_wp2
        go_ret
        exact ⟨by rw [HR.out]; rfl, hb0⟩
      | false =>
        have hmap := hgood rfl
        clear hbad hgood HMAP
        have c0 : wc.cell? ⟨w.heap.size, 0, none⟩ = some (.int .i64 k) := B0.cell rfl
        have c5 : wc.cell? ⟨w.heap.size, 5, none⟩ = some (.slice al l.length cl) := B0.cell rfl
        by_cases hk6 : 6 ≤ k
        · have HM := Lib.hid (canF_many (d := d) (n := n) (b := b) (t := t) hk6 k7 hmap)
          clear hmap c0 c5
          go_wp2
          go_loopw [5] (fun i wr => ∃ j : Nat, j ≤ l.length ∧ i = .int .i64 j ∧ (l.take j).all (canF d) = true ∧ Blk wr w.heap.size 63 [.int .i64 k, .int .i64 n, .slice ab b.length cb, S, .slice ak ks.length ck, .slice al l.length cl] ∧ Below w.heap.size w wr) (fun i _ => l.length - (intOf i).toNat)
          case atStart => exact ⟨0, Nat.zero_le _, rfl, by rw [List.take_zero]; rfl, B0, hb0⟩
          case round =>
            obtain ⟨j, hj, rfl, hri, BK, hb⟩ := hrel
            have c0 : wr.cell? ⟨w.heap.size, 0, none⟩ = some (.int .i64 k) := BK.cell rfl
            have c5 : wr.cell? ⟨w.heap.size, 5, none⟩ = some (.slice al l.length cl) := BK.cell rfl
            by_cases hlt : j < l.length
            · have hcj : css[j]? = some (css[j]'(by omega)) := by simp
              have hvj : l[j]? = some l[j] := by simp [hlt]
              have hbC : Below w0.heap.size w0 wr := hbw.trans (hb.mono hbw.size)
              have IH := ih j _ _ hcj hvj d (p + 1) wr (by omega) hbC
              have hrow := hl.below hbC
              have s1 := hrow.elemSome (s := 6) h6 (by decide) (i := j) (by omega)
              have q1 := ldOp_at (P := Try.prog) (ty := 63) (hrow.elem (s := 6) h6 hcj) Try.underlying63 rfl (by rw [h6 _ (List.getElem_mem _)]; exact sizeV)
              have HA : Hid ((l.take (j + 1)).all (canF d) = ((l.take j).all (canF d) && canF d l[j])) := by
                show _ = _
                rw [List.take_succ_eq_append_getElem hlt, List.all_append]; simp
              have HN : Hid (canF d l[j] = false → l.all (canF d) = false) := by
                intro h
                rcases Bool.eq_false_or_eq_true (l.all (canF d)) with h2 | h2
                · rw [List.all_eq_true.1 h2 _ (List.getElem_mem hlt)] at h; cases h
                · exact h2
              have HRI := Lib.hid hri
              have hsz := hb.size
              have j0 : (0 : Int) ≤ (j : Int) := by omega
              have j1 : (j : Int) < (l.length : Int) := by omega
              have jb : (j : Int) + 1 ≤ 9223372036854775807 := by unfold maxLen at hlc; omega
              have ew2 : IntKind.i64.wrap ((j : Int) + 1) = (j : Int) + 1 := IntWalk.i64_in _ (by omega)
              have ew : IntKind.i64.wrap ((p : Int) + 1) = (p : Int) + 1 := IntWalk.i64_in _ (by omega)
              have ep : ((p + 1 : Nat) : Int) = (p : Int) + 1 := by omega
              rw [ep] at IH
              generalize css[j]'(by omega) = c at *
              generalize l[j] = v at *
              clear hri hcj hvj hrow ep
              go_wp2_with fail
              refine IH.mono ?_
              rintro e w5 ⟨rfl, hb5⟩
              have BK5 := BK.below hb5
              have hbw5 : Below w.heap.size w w5 := hb.trans (hb5.mono hsz)
              rcases Bool.eq_false_or_eq_true (canF d v) with h | h
              · have HL : Hid ((l.take (j + 1)).all (canF d) = true) := by show _ = _; rw [HA.out, HRI.out, h]; rfl
                rw [h]
                go_wp2
                first
                  | exact ⟨⟨j + 1, by omega, (by first | rfl | go_num | (congr 1; omega)), HL.out, BK5, hbw5⟩, by simp [intOf] <;> omega⟩
                  | (refine ⟨?_, by simp [intOf] <;> omega⟩; (repeat apply Exists.intro); exact ⟨⟨j + 1, by omega, (by first | rfl | go_num | (congr 1; omega)), HL.out, BK5, hbw5⟩, rfl⟩)
              · have HR := Lib.hid (HM.out.trans (HN.out h))
                rw [h]
                go_wp2
                go_ret
                exact ⟨by rw [HR.out]; rfl, hbw5⟩
            · obtain rfl : j = l.length := by omega
              rw [List.take_length] at hri
              go_wp2
              go_ret
              exact ⟨by rw [HM.out, hri]; rfl, hb⟩
        · have HM := Lib.hid (canF_flat (d := d) (n := n) (b := b) (t := t) (ks := ks) (l := l) k0 (by omega))
          have g6 : ¬ 6 ≤ k := hk6
          by_cases hl0 : 0 < l.length
          · have hl0' : (0 : Int) < (l.length : Int) := by omega
            go_wp2
            go_loopw [5] (fun i wr => i = .int .i64 0 ∧ wr = wc) (fun _ _ => 0)
            case atStart => exact ⟨rfl, rfl⟩
            case round =>
              obtain ⟨rfl, rfl⟩ := hrel
              go_wp2
              go_ret
              exact ⟨by rw [HM.out]; rfl, hb0⟩
          · have hl0' : ¬ (0 : Int) < (l.length : Int) := by omega
            go_wp2
            go_loopw [5] (fun i wr => i = .int .i64 0 ∧ wr = wc) (fun _ _ => 0)
            case atStart => exact ⟨rfl, rfl⟩
            case round =>
              obtain ⟨rfl, rfl⟩ := hrel
              go_wp2
              go_ret
              exact ⟨by rw [HM.out]; rfl, hb0⟩
  · have HR := Lib.hid (canF_bad (d := d + 1) (n := n) (b := b) (t := t) (ks := ks) (l := l) hr)
    by_cases g0 : k < 0
    · clear hr
      go_wp2
      go_ret
      exact ⟨by rw [HR.out]; rfl, hb0⟩
    · have g7 : 7 < k := by omega
      clear hr
      go_wp2
      go_ret
      exact ⟨by rw [HR.out]; rfl, hb0⟩
end Go.Proofs.Ytakliplkabgmbaa
