/- Joined: what one statement of this layer stands on, part 2 of 17; nothing is assumed. -/
import Derived.Test.YtpchogicdnfggaaDoorRows
import Derived.Deep.DeepCutAuto
import Derived.Lib.ConvBytes
import Derived.Test.YtpchogicdnfggaaDoorKX1
set_option maxRecDepth 20000
namespace Go.Proofs.YtpchogicdnfggaaDoor
open Go.RowKit Go.Hd

section
variable (ρ : Operand → Value) (dst : Option Tmp) (ty : TypeId) (pos : String) (after : Array Edge) (guard : Option (Nat × Bool))
theorem h_ldV (x : Operand) : execOp ρ { dst, op := .load 30 x, type := ty, pos, after, guard } = (do pure (.value (← ldOp 30 (ρ x)))) := rfl
theorem h_stV (x y : Operand) : execOp ρ { dst, op := .store 30 x y, type := ty, pos, after, guard } = (do stoOp 30 (ρ x) (ρ y); pure .skip) := rfl
theorem h_alV : execOp ρ { dst, op := .alloc 30, type := ty, pos, after, guard } = (do pure (.value (← alOp 30))) := rfl
end
def zV : Array Value := List.toArray (α := Value) [.int .i64 0, .int .i64 0, .slice none 0 0, strV [], .slice none 0 0, .slice none 0 0]
theorem zV_size : zV.size = 6 := by rfl
theorem infoV : (Tryd.prog.info? 30).map (fun i => (i.zero, i.size)) = some (some (.agg zV), 6) := by kernel_rfl
theorem sizeV : (Tryd.prog.info? 30).map (·.size) = some 6 := (zero_of_info infoV).2
theorem zeroV : (Tryd.prog.info? 30).bind (·.zero) = some (.agg zV) := by kernel_rfl
theorem r_ldV {w : World} {b : Nat} {cs : Array Value} {T : TypeId} (hb : w.heap.size = b) (hs : cs.size = 6) : (ldOp 30 (.pointer (some ⟨b, 0, none⟩))).run Tryd.prog (w.alloc (.cells cs T)) = .ok (.agg cs) (w.alloc (.cells cs T)) :=
  ldOp_new hb Tryd.underlying30 rfl (by rw [hs]; exact sizeV)
theorem r_stV {w : World} {b : Nat} {old cs : Array Value} {T : TypeId} (hb : w.heap.size = b) (ho : old.size = 6) (hs : cs.size = 6) (h1 : OneC cs) : (stoOp 30 (.pointer (some ⟨b, 0, none⟩)) (.agg cs)).run Tryd.prog (w.alloc (.cells old T)) = .ok () (w.alloc (.cells cs T)) :=
  stOp_new hb (by rw [hs]; exact sizeV) (by rw [ho, hs]) h1
theorem r_alV {w : World} : (alOp 30).run Tryd.prog w = .ok (.pointer (some ⟨w.heap.size, 0, none⟩)) (w.alloc (.cells zV 30)) := alOp_run zeroV
attribute [local go_sem ↓] h_ldV h_stV h_alV
attribute [local go_sem] r_ldV r_stV r_alV

theorem canF_bad {d : Nat} {k n : Int} {b t : List UInt8} {ks : List (List UInt8)} {l : List PV} (h : ¬ (0 ≤ k ∧ k ≤ 7)) : canF d (.mk k n b t ks l) = false := by
  cases d with
  | zero => rfl
  | succ d => simp [canF, PV.kind, h]
theorem canF_map {d : Nat} {n : Int} {b t : List UInt8} {ks : List (List UInt8)} {l : List PV} (h : ¬ (ks.length = l.length ∧ risesT ks = true)) : canF d (.mk 7 n b t ks l) = false := by
  cases d with
  | zero => rfl
  | succ d =>
    simp only [canF, PV.kind, PV.keys, PV.list]
    have : (ks.length == l.length && risesT ks) = false := by
      cases h2 : (ks.length == l.length && risesT ks) with
      | false => rfl
      | true => simp at h2; exact absurd h2 h
    rw [this]; rfl
theorem canF_many {d : Nat} {k n : Int} {b t : List UInt8} {ks : List (List UInt8)} {l : List PV} (h6 : 6 ≤ k) (h7 : k ≤ 7) (h : k = 7 → ks.length = l.length ∧ risesT ks = true) : canF (d + 1) (.mk k n b t ks l) = l.all (canF d) := by
  show (decide (0 ≤ k ∧ k ≤ 7) && (k != 7 || (ks.length == l.length && risesT ks)) && (decide (k < 6) || l.all (canF d))) = _
  have e1 : decide (0 ≤ k ∧ k ≤ 7) = true := decide_eq_true ⟨by omega, h7⟩
  have e2 : decide (k < 6) = false := decide_eq_false (by omega)
  have e3 : (k != 7 || (ks.length == l.length && risesT ks)) = true := by
    by_cases hk : k = 7
    · obtain ⟨h1, h2⟩ := h hk; simp [h1, h2]
    · simp [hk]
  rw [e1, e2, e3]; simp
theorem canF_flat {d : Nat} {k n : Int} {b t : List UInt8} {ks : List (List UInt8)} {l : List PV} (h0 : 0 ≤ k) (h6 : k < 6) : canF (d + 1) (.mk k n b t ks l) = true := by
  show (decide (0 ≤ k ∧ k ≤ 7) && (k != 7 || (ks.length == l.length && risesT ks)) && (decide (k < 6) || l.all (canF d))) = _
  have e1 : decide (0 ≤ k ∧ k ≤ 7) = true := decide_eq_true ⟨h0, by omega⟩
  have e2 : decide (k < 6) = true := decide_eq_true h6
  have e3 : (k != 7) = true := by simp; omega
  rw [e1, e2, e3]; rfl
theorem risesT_not {ks : List (List UInt8)} {j : Nat} (h : risesT (ks.take j) = false) : risesT ks = false := by
  rcases Bool.eq_false_or_eq_true (risesT ks) with h2 | h2
  · rw [risesT_of ks j h2] at h; cases h
  · exact h2

set_option maxHeartbeats 2000000 in
theorem can_any {w : World} {cs : List Value} {v : PV} (h : VAt w cs v) : ∀ (d : Nat) (w' : World), d ≤ 1000 → Below w.heap.size w w' →
    Calls Tryd.prog 66 #[.agg cs.toArray, .int .i64 (d : Int)] w' fun e w'' => e = .returned (.bool (canF d v)) ∧ Below w'.heap.size w' w'' := by
  induction h with
  | @mk k n b t ks l ab ak al cb ck cl css hk hn hb hbc ht hks hkc hkt hl hlc hcs h6 sub ih =>
  intro d w' hdd hbw
  have hb0 : Below w'.heap.size w' (w'.alloc (.cells (List.toArray (α := Value) [.int .i64 k, .int .i64 n, .slice ab b.length cb, strV t, .slice ak ks.length ck, .slice al l.length cl]) 30)) := (Below.refl _ _).alloc (Nat.le_refl _) _
  have B0 : Blk (w'.alloc (.cells (List.toArray (α := Value) [.int .i64 k, .int .i64 n, .slice ab b.length cb, strV t, .slice ak ks.length ck, .slice al l.length cl]) 30)) w'.heap.size 30 [.int .i64 k, .int .i64 n, .slice ab b.length cb, strV t, .slice ak ks.length ck, .slice al l.length cl] := Blk.new _ _ _
  generalize hS : strV t = S at *
  have hSo : S.oneCell' = true := by rw [← hS]; rfl
  clear hS
  go_enter Tryd.func66, Tryd.ntmps66
  go_upto_region 1 with (fail)
  generalize w'.alloc (.cells (List.toArray (α := Value) [.int .i64 k, .int .i64 n, .slice ab b.length cb, S, .slice ak ks.length ck, .slice al l.length cl]) 30) = W at *
  have c0 : W.cell? ⟨w'.heap.size, 0, none⟩ = some (.int .i64 k) := B0.cell rfl
  have c4 : W.cell? ⟨w'.heap.size, 4, none⟩ = some (.slice ak ks.length ck) := B0.cell rfl
  have c5 : W.cell? ⟨w'.heap.size, 5, none⟩ = some (.slice al l.length cl) := B0.cell rfl
  by_cases hr : 0 ≤ k ∧ k ≤ 7
  · obtain ⟨k0, k7⟩ := hr
    have g0 : ¬ k < 0 := by omega
    have g7 : ¬ 7 < k := by omega
    cases d with
    | zero =>
      go_wp2
      go_ret
      exact ⟨rfl, hb0⟩
    | succ d =>
      have gd : (((d + 1 : Nat) : Int) == 0) = false := beq_eq_false_iff_ne.2 (by omega)
      have HMAP := Lib.hid (fun h => canF_map (d := d + 1) (n := n) (b := b) (t := t) (ks := ks) (l := l) h)
      go_upto_if 23 with (fail)
      go_cut [4] (fun _ wx => (Blk wx w'.heap.size 30 [.int .i64 k, .int .i64 n, .slice ab b.length cb, S, .slice ak ks.length ck, .slice al l.length cl] ∧ Below w'.heap.size w' wx) ∧ (k = 7 → ks.length = l.length ∧ risesT ks = true))
      case first =>
        by_cases h7 : k = 7
        · subst h7
          by_cases hkl : ks.length = l.length
          · have t1 : ((ks.length : Int) != (l.length : Int)) = false := by rw [hkl]; simp
            have HKL := Lib.hid hkl
            clear hkl
            go_wp2
            go_loopw [34] (fun i wr => ∃ j : Nat, j ≤ ks.length ∧ i = .int .i64 j ∧ risesT (ks.take j) = true ∧ Blk wr w'.heap.size 30 [.int .i64 7, .int .i64 n, .slice ab b.length cb, S, .slice ak ks.length ck, .slice al l.length cl] ∧ Below w'.heap.size w' wr) (fun i _ => ks.length - (intOf i).toNat)
            case atStart => exact ⟨0, Nat.zero_le _, rfl, by rw [List.take_zero]; rfl, B0, hb0⟩
            case round =>
              obtain ⟨j, hj, rfl, hri, BK, hbk⟩ := hrel
              have c0 : wr.cell? ⟨w'.heap.size, 0, none⟩ = some (.int .i64 7) := BK.cell rfl
              have c4 : wr.cell? ⟨w'.heap.size, 4, none⟩ = some (.slice ak ks.length ck) := BK.cell rfl
              by_cases hlt : j < ks.length
              · have hrowk := hks.below (hbw.trans (hbk.mono hbw.size))
                have q1 : wr.cell? ((hd ak).add j) = some (strV ks[j]) := hrowk.cell (by simp [hlt])
                have s1 : ak.isSome = true := hrowk.isSome (i := j) (by simpa using hlt)
                have j0 : (0 : Int) ≤ (j : Int) := by omega
                have j1 : (j : Int) < (ks.length : Int) := by omega
                unfold strV at q1
                by_cases hj0 : j = 0
                · subst hj0
                  have HL := Lib.hid (risesT_one ks)
                  have ib : (1 : Int) ≤ (ks.length : Int) := by omega
                  have q1' : wr.cell? (hd ak) = some (.string (str ks[0])) := by have h := q1; simp only [Addr.add] at h; simpa using h
                  have n0 : (0 : Int) < (ks.length : Int) := by omega
                  generalize ks[0] = x at *
                  clear hri
                  go_wp2
                  first
                    | exact ⟨⟨0 + 1, by omega, (by first | rfl | go_num | (congr 1; omega)), HL.out, BK, hbk⟩, by simp [intOf] <;> omega⟩
                    | (refine ⟨?_, by simp [intOf] <;> omega⟩; (repeat apply Exists.intro); exact ⟨⟨0 + 1, by omega, (by first | rfl | go_num | (congr 1; omega)), HL.out, BK, hbk⟩, rfl⟩)
                · obtain ⟨i, rfl⟩ : ∃ i, j = i + 1 := ⟨j - 1, by omega⟩
                  have hil : i < ks.length := by omega
                  have q0 : wr.cell? ((hd ak).add i) = some (strV ks[i]) := hrowk.cell (by simp [hil])
                  unfold strV at q0
                  have HT := Lib.hid (risesT_take ks i hlt)
                  have HN := Lib.hid (fun h => risesT_not (ks := ks) (j := i + 2) h)
                  have HRI := Lib.hid hri
                  have ew : IntKind.i64.wrap (i : Int) = (i : Int) := IntWalk.i64_in _ (by unfold maxLen at hkc; omega)
                  have ew1 : IntKind.i64.wrap ((i : Int) + 1 - 1) = (i : Int) := by rw [IntWalk.i64_in _ (by unfold maxLen at hkc; omega)]; omega
                  have i0 : (0 : Int) ≤ (i : Int) := by omega
                  have i1 : (i : Int) < (ks.length : Int) := by omega
                  have i4 : ((i : Int) + 1).toNat = i + 1 := by omega
                  have i5 : (0 : Int) < (i : Int) + 1 := by omega
                  have i2 : (0 : Int) ≤ (i : Int) + 1 := by omega
                  have i3 : (i : Int) + 1 < (ks.length : Int) := by omega
                  have q1' : wr.cell? ⟨(hd ak).block, (hd ak).off + (i + 1), none⟩ = some (.string (str ks[i + 1])) := by have h := q1; simp only [Addr.add] at h; simpa using h
                  have ib : (i : Int) + 1 + 1 ≤ 9223372036854775807 := by unfold maxLen at hkc; omega
                  have ew2 : IntKind.i64.wrap ((i : Int) + 1 + 1) = (i : Int) + 1 + 1 := IntWalk.i64_in _ (by omega)
                  generalize ks[i] = x at *
                  generalize ks[i + 1] = y at *
                  clear hri
                  have HLE : Hid (leT y x = (Op.bytesLess (str y).toList (str x).toList || (str y).toList == (str x).toList)) := rfl
                  rcases Bool.eq_false_or_eq_true (Op.bytesLess (str y).toList (str x).toList) with hA | hA
                  · have HR := Lib.hid (HMAP.out (fun h => by
                      have h1 := HN.out (by rw [HT.out, HRI.out, HLE.out, hA]; rfl)
                      rw [h1] at h
                      exact absurd h.2 (by decide)))
                    go_wp2
                    go_ret
                    exact ⟨by rw [HR.out]; rfl, hbk⟩
                  · rcases Bool.eq_false_or_eq_true ((str y).toList == (str x).toList) with hB | hB
                    · have HR := Lib.hid (HMAP.out (fun h => by
                        have h1 := HN.out (by rw [HT.out, HRI.out, HLE.out, hA, hB]; rfl)
                        rw [h1] at h
                        exact absurd h.2 (by decide)))
                      go_wp2
                      go_ret
                      exact ⟨by rw [HR.out]; rfl, hbk⟩
                    · have HL : Hid (risesT (ks.take (i + 1 + 1)) = true) := by
                        show _ = _
                        rw [HT.out, HRI.out, HLE.out, hA, hB]; rfl
                      go_wp2
                      first
                        | exact ⟨⟨i + 1 + 1, by omega, (by first | rfl | go_num | (congr 1; omega)), HL.out, BK, hbk⟩, by simp [intOf] <;> omega⟩
                        | (refine ⟨?_, by simp [intOf] <;> omega⟩; (repeat apply Exists.intro); exact ⟨⟨i + 1 + 1, by omega, (by first | rfl | go_num | (congr 1; omega)), HL.out, BK, hbk⟩, rfl⟩)
              · obtain rfl : j = ks.length := by omega
                rw [List.take_length] at hri
                go_wp2
                go_meet
                exact ⟨⟨BK, hbk⟩, fun _ => ⟨HKL.out, hri⟩⟩
          · have t1 : ((ks.length : Int) != (l.length : Int)) = true := by simpa using fun h => hkl (by exact_mod_cast h)
            have HR := Lib.hid (HMAP.out (fun h => hkl h.1))
            clear hkl
            go_wp2
            go_ret
            exact ⟨by rw [HR.out]; rfl, hb0⟩
        · have t1 : (k == 7) = false := beq_eq_false_iff_ne.2 h7
          go_wp2
          go_meet
          exact ⟨⟨B0, hb0⟩, fun h => absurd h h7⟩
      case rest =>
        clear B0 hb0 c0 c4 c5
        obtain ⟨⟨B0, hb0⟩, hmap⟩ := hcut
        have c0 : wc.cell? ⟨w'.heap.size, 0, none⟩ = some (.int .i64 k) := B0.cell rfl
        have c5 : wc.cell? ⟨w'.heap.size, 5, none⟩ = some (.slice al l.length cl) := B0.cell rfl
        by_cases hk6 : 6 ≤ k
        · have HM := Lib.hid (canF_many (d := d) (n := n) (b := b) (t := t) hk6 k7 hmap)
          clear hmap
          go_wp2
          go_loopw [58] (fun i wr => ∃ j : Nat, j ≤ l.length ∧ i = .int .i64 j ∧ (l.take j).all (canF d) = true ∧ Below w'.heap.size w' wr) (fun i _ => l.length - (intOf i).toNat)
          case atStart => exact ⟨0, Nat.zero_le _, rfl, by rw [List.take_zero]; rfl, hb0⟩
          case round =>
            obtain ⟨j, hj, rfl, hri, hb⟩ := hrel
            by_cases hlt : j < l.length
            · have hcj : css[j]? = some (css[j]'(by omega)) := by simp
              have hvj : l[j]? = some l[j] := by simp [hlt]
              have IH := ih j _ _ hcj hvj d
              have hrow := hl.below (hbw.trans (hb.mono hbw.size))
              have s1 := hrow.elemSome (s := 6) h6 (by decide) (i := j) (by omega)
              have q1 := ldOp_at (P := Tryd.prog) (ty := 30) (hrow.elem (s := 6) h6 hcj) Tryd.underlying30 rfl (by rw [h6 _ (List.getElem_mem _)]; exact sizeV)
              have x6 : (css[j]'(by omega)).toArray.size = 6 := by simpa using h6 _ (List.getElem_mem _)
              have xo : OneC (css[j]'(by omega)).toArray := all_oneCell_toArray (sub j _ _ hcj hvj).one
              have HA : Hid ((l.take (j + 1)).all (canF d) = ((l.take j).all (canF d) && canF d l[j])) := by
                show _ = _
                rw [List.take_succ_eq_append_getElem hlt, List.all_append]; simp
              have HN : Hid (canF d l[j] = false → l.all (canF d) = false) := by
                intro h
                rcases Bool.eq_false_or_eq_true (l.all (canF d)) with h2 | h2
                · rw [List.all_eq_true.1 h2 _ (List.getElem_mem hlt)] at h; cases h
                · exact h2
              have HRI := Lib.hid hri
              have zs := zV_size
              have hsz := hb.size
              have j0 : (0 : Int) ≤ (j : Int) := by omega
              have j1 : (j : Int) < (l.length : Int) := by omega
              have jb : (j : Int) + 1 ≤ 9223372036854775807 := by unfold maxLen at hlc; omega
              have ew2 : IntKind.i64.wrap ((j : Int) + 1) = (j : Int) + 1 := IntWalk.i64_in _ (by omega)
              have ew : IntKind.i64.wrap (d : Int) = (d : Int) := IntWalk.i64_in _ (by omega)
              have ew1 : IntKind.i64.wrap ((d : Int) + 1 - 1) = (d : Int) := by rw [IntWalk.i64_in _ (by omega)]; omega
              have hbC : Below w.heap.size w wr := hbw.trans (hb.mono hbw.size)
              generalize css[j]'(by omega) = c at *
              generalize l[j] = v at *
              clear hri hcj hvj hrow
              go_wp2_with fail
              refine (IH _ (by omega) (hbC.alloc hbC.size _)).mono ?_
              rintro e w5 ⟨rfl, hb5⟩
              have hbw5 : Below w'.heap.size w' w5 := (hb.alloc hsz _).trans (hb5.mono (by simp; omega))
              rcases Bool.eq_false_or_eq_true (canF d v) with h | h
              · have HL : Hid ((l.take (j + 1)).all (canF d) = true) := by show _ = _; rw [HA.out, HRI.out, h]; rfl
                rw [h]
                go_wp2
                first
                  | exact ⟨⟨j + 1, by omega, (by first | rfl | go_num | (congr 1; omega)), HL.out, hbw5⟩, by simp [intOf] <;> omega⟩
                  | (refine ⟨?_, by simp [intOf] <;> omega⟩; (repeat apply Exists.intro); exact ⟨⟨j + 1, by omega, (by first | rfl | go_num | (congr 1; omega)), HL.out, hbw5⟩, rfl⟩)
              · have HR := Lib.hid (HM.out.trans (HN.out h))
                rw [h]
                go_wp2
                go_ret
                exact ⟨by rw [HR.out]; rfl, hbw5⟩
            · obtain rfl : j = l.length := by omega
              rw [List.take_length] at hri
              go_wp2
              go_ret
              exact ⟨by rw [HM.out, hri]; rfl, hb⟩
        · have HM := Lib.hid (canF_flat (d := d) (n := n) (b := b) (t := t) (ks := ks) (l := l) k0 (by omega))
          have g6 : ¬ 6 ≤ k := hk6
          go_wp2
          go_ret
          exact ⟨by rw [HM.out]; rfl, hb0⟩
  · have HR := Lib.hid (canF_bad (d := d) (n := n) (b := b) (t := t) (ks := ks) (l := l) hr)
    by_cases g0 : k < 0
    · clear hr
      go_wp2
      go_ret
      exact ⟨by rw [HR.out]; rfl, hb0⟩
    · have g7 : 7 < k := by omega
      clear hr
      go_wp2
      go_ret
      exact ⟨by rw [HR.out]; rfl, hb0⟩
end Go.Proofs.YtpchogicdnfggaaDoor
set_option maxRecDepth 20000
namespace Go.Proofs.YtpchogicdnfggaaDoor
open Go.RowKit Go.Hd

theorem big_any (x n : Nat) (w : World) (hx : x < 18446744073709551616) (h1 : 1 ≤ n) (h8 : n ≤ 8) :
    Calls Tryd.prog 41 #[.int .u64 x, .int .i64 n] w fun e w' => ∃ v, e = .returned v ∧ Fresh w w' v (putL x n).reverse := by
  go_enter Tryd.func41, Tryd.ntmps41
  go_wp2_with fail
  refine (put_any _ _ _ hx h1 h8).mono ?_
  rintro e w1 ⟨v, rfl, hown, hb⟩
  rcases owns_bytes hown with ⟨_, h0⟩ | ⟨g, c, rest, rfl, hg, hB, hn, hm, hc⟩
  · have := putL_length x n; rw [h0] at this; simp at this; omega
  go_wp2_with fail
  refine (rev_any g n c (putL x n) rest w1 hB h1 (by simp) (by simp [maxLen]; omega)).mono ?_
  rintro e w2 ⟨rfl, hB2, hg2⟩
  go_wp2
  go_ret
  refine ⟨_, rfl, ?_, hb.trans ?_⟩
  · have h := hB2.ownsB (c := c) hg (by simpa using hn) hm (by simpa using hc)
    simpa using h
  · exact (Below.refl _ _).grown hg2 hb.size (fun k hk => by cases hk; exact hg)
theorem copy_any (a : Option Addr) (n c : Nat) (l : List UInt8) (w : World) (hn : n = l.length) (hl : Row w a (l.map b8)) (hm : l.length ≤ 140737488355328) :
    Calls Tryd.prog 73 #[.slice a n c] w fun e w' => ∃ v, e = .returned v ∧ Fresh w w' v l := by
  subst hn
  obtain ⟨v, w1, hrun, hown, hg⟩ := append_src (ty := 26) eB (World.ownsRow_nil w w.heap.size 5 1) (Src.ofRow eB.ht a l.length c (l.map b8) (by decide) (by simp) hl (bytes_one l)) (by unfold maxLen; omega) (by omega) (Nat.le_refl _)
  go_enter Tryd.func73, Tryd.ntmps73
  go_wp2_with (at_builtin; refine wpList_append_run hrun rfl rfl rfl rfl ?_)
  go_ret
  refine ⟨v, rfl, ?_, Below.ofGrown hg (World.ownsRow_nil w w.heap.size 5 1) (Nat.le_refl _)⟩
  simpa using hown

/-- bytes.Clone: nil stays nil, else memory of its own. -/
theorem clone_any (a : Option Addr) (n c : Nat) (l : List UInt8) (w : World) (hn : n = l.length) (hl : Row w a (l.map b8)) (hm : l.length ≤ 140737488355328) :
    Calls Tryd.prog 59 #[.slice a n c] w fun e w' => ∃ v, e = .returned v ∧ Fresh w w' v l := by
  subst hn
  cases a with
  | none =>
    have h0 : l = [] := by
      rcases List.eq_nil_or_concat l with h | ⟨_, _, h⟩
      · exact h
      · have := hl.1 (by rw [h]; simp); cases this
    subst h0
    have hq : ∀ w, (binOp .eql 26 (.slice none 0 c) (.slice none 0 0)).run Tryd.prog w = .ok (.bool true) w := fun w => Lib.run_eql_slice_nil (P := Tryd.prog) w 26 5 none 0 c 0 0 eB.ht
    go_enter Tryd.func59, Tryd.ntmps59
    go_wp2
    go_ret
    exact ⟨_, rfl, World.ownsRow_nil _ _ _ _, Below.refl _ _⟩
  | some a =>
    have hq := Lib.run_eql_slice_nil (P := Tryd.prog) w 26 5 (some a) l.length c 0 0 eB.ht
    have hB : Blk (w.alloc (.cells #[] 5)) w.heap.size 5 [] := Blk.new w _ #[]
    have ho : (w.alloc (.cells #[] 5)).ownsRow w.heap.size 5 1 (.slice (some ⟨w.heap.size, 0, none⟩) 0 0) 0 [] := World.ownsRow_made w #[] 0 (Nat.le_refl _) (by unfold maxLen; omega) rfl
    have hb0 : Below w.heap.size w (w.alloc (.cells #[] 5)) := (Below.refl _ _).alloc (Nat.le_refl _) _
    obtain ⟨v, w1, hrun, hown, hg⟩ := append_src (ty := 26) eB ho (Src.ofRow eB.ht (some a) l.length c (l.map b8) (by decide) (by simp) (hl.below hb0) (bytes_one l)) (by unfold maxLen; omega) (by omega) (by simp)
    go_enter Tryd.func59, Tryd.ntmps59
    go_wp2_with (at_builtin; refine wpList_append_run hrun rfl rfl rfl rfl ?_)
    go_ret
    refine ⟨v, rfl, ?_, hb0.trans (Below.ofGrown hg ho (by simp))⟩
    simpa using hown

end Go.Proofs.YtpchogicdnfggaaDoor
set_option maxRecDepth 20000
namespace Go.Proofs.YtpchogicdnfggaaDoor
open Go.RowKit Go.Hd

/-- The writer in block g: what it has laid, and whether it gave up. -/
def WrAt (B : Nat) (w : World) (g : Nat) (s : List UInt8 × Bool) : Prop := ∃ v, Buf B w g 105 5 [v, .bool s.2] v s.1 ∧ s.1.length ≤ 65536
def putF (s : List UInt8 × Bool) (m : List UInt8) : List UInt8 × Bool := if s.2 = true ∨ 65536 - s.1.length < m.length then (s.1, true) else (s.1 ++ m, false)
theorem WrAt.keep {B g : Nat} {w w' : World} {s : List UInt8 × Bool} (h : WrAt B w g s) (hb : Below w.heap.size w w') : WrAt B w' g s := by
  obtain ⟨v, h1, h2⟩ := h
  exact ⟨v, h1.keep hb, h2⟩
theorem WrAt.le {B g : Nat} {w : World} {s : List UInt8 × Bool} (h : WrAt B w g s) : B ≤ w.heap.size := by
  obtain ⟨v, h1, _⟩ := h; exact h1.le
theorem WrAt.lt {B g : Nat} {w : World} {s : List UInt8 × Bool} (h : WrAt B w g s) : g < B := by
  obtain ⟨v, h1, _⟩ := h; exact h1.lt
/-- The block that the slice in a block's first cell owns. -/
def ownOf (w : World) (g : Nat) : Option Nat := (w.cell? ⟨g, 0, none⟩).bind Value.ownBlock
theorem Blk.ownOf {w : World} {g : Nat} {T : TypeId} {v : Value} {xs : List Value} (h : Blk w g T (v :: xs)) : ownOf w g = v.ownBlock := by
  unfold Go.Proofs.YtpchogicdnfggaaDoor.ownOf; rw [h.cell (i := 0) (u := v) rfl]; rfl
/-- What the writer in block g may change: its block, its bytes' block; below block B nothing but its block. -/
structure Kx (B g : Nat) (w w' : World) : Prop where
  kp : Kp B (some g) w w'
  far : ∀ q, q < w.heap.size → q ≠ g → ownOf w g ≠ some q → w'.heap[q]? = w.heap[q]? ∧ ownOf w' g ≠ some q
theorem Kx.trans {B g : Nat} {a b c : World} (h : Kx B g a b) (k : Kx B g b c) : Kx B g a c :=
  ⟨h.kp.trans k.kp, fun q hq hg ho => by
    obtain ⟨h1, h2⟩ := h.far q hq hg ho
    obtain ⟨h3, h4⟩ := k.far q (Nat.lt_of_lt_of_le hq h.kp.size) hg h2
    exact ⟨h3.trans h1, h4⟩⟩
theorem ownOf_below {a b : World} {g : Nat} (h : Below a.heap.size a b) (hg : g < a.heap.size) : ownOf b g = ownOf a g := by
  unfold Go.Proofs.YtpchogicdnfggaaDoor.ownOf; rw [h.cell hg]
theorem Kx.ofBelow {B g : Nat} {a b : World} (h : Below a.heap.size a b) (hB : B ≤ a.heap.size) (hg : g < B) : Kx B g a b :=
  ⟨Kp.ofBelow h hB, fun q hq _ ho => ⟨h.block q hq, by rw [ownOf_below h (by omega)]; exact ho⟩⟩
theorem Kx.set1 {B g : Nat} {w : World} {T : TypeId} {v x : Value} (h : Blk w g T [v, x]) (y : Value) : Kx B g w (w.setCell ⟨g, 1, none⟩ y) :=
  ⟨Kp.set _ _ _, fun q _ hg ho => ⟨Below.heap_setCell w _ y q hg, by
    have h2 : Blk (w.setCell ⟨g, 1, none⟩ y) g T [v, y] := h.set 1 y
    rw [Blk.ownOf h2, ← Blk.ownOf h]; exact ho⟩⟩
theorem Kx.app {B g : Nat} {w w2 : World} {T : TypeId} {v v' x : Value} (h : Blk w g T [v, x]) (hb : Kp B none w w2) (hg : w.grownBy w2 v.ownBlock) (h2 : Blk w2 g T [v, x]) (hv : ∀ k, v'.ownBlock = some k → v.ownBlock = some k ∨ w.heap.size ≤ k) : Kx B g w (w2.setCell ⟨g, 0, none⟩ v') :=
  ⟨(hb.none).trans (Kp.set _ _ _), fun q hq hgq ho => by
    rw [Blk.ownOf h] at ho
    have h3 : Blk (w2.setCell ⟨g, 0, none⟩ v') g T [v', x] := h2.set 0 v'
    refine ⟨(Below.heap_setCell w2 _ v' q hgq).trans (hg.block q hq (fun e => ho e.symm)), fun e => ?_⟩
    rw [Blk.ownOf h3] at e
    rcases hv q e with h4 | h4
    · exact ho h4
    · omega⟩
theorem Buf.appendK {P : Program} {t ty : TypeId} {B g : Nat} {w : World} {T E : TypeId} {xs : List Value} {v : Value} {l : List UInt8} (h : Buf B w g T E xs v l) (El : Elem P t E (.int .u8 0) 1 1) {x : Value} {m : List UInt8}
    (hsrc : Src P 1 t x m.length (m.map b8) w) (hl : l.length + m.length ≤ 140737488355328) :
    ∃ a' n' c' w', (Builtin.append_ #[t, t] ty #[v, x]).run P w = .ok (.slice a' n' c') w' ∧ Buf B w' g T E xs (.slice a' n' c') (l ++ m) ∧ Kp B none w w' ∧ w.grownBy w' v.ownBlock ∧ (∀ k, (Value.slice a' n' c').ownBlock = some k → v.ownBlock = some k ∨ w.heap.size ≤ k) := by
  obtain ⟨v', w', h1, h2, h3, h4⟩ := append_srcK (ty := ty) El h.own hsrc (by unfold maxLen; omega) (by omega) h.le
  have hv : ∀ k, v.ownBlock = some k → B ≤ k := fun k hk => (h.own.lt k hk).1
  have hk : Kp B none w w' := Kp.ofGrown h3 h.le (fun k hk => .inl (hv k hk))
  obtain ⟨a', c', rfl, _⟩ := owns_at h2
  refine ⟨a', _, c', w', h1, ⟨h.blk.kp hk h.lt (by simp), ?_, h.lt, Nat.le_trans h.le hk.size⟩, hk, h3, h4⟩
  rw [List.length_append, List.map_append]; exact h2
set_option maxHeartbeats 1000000 in
theorem pput_any {B g : Nat} {w : World} {s : List UInt8 × Bool} {a : Option Addr} {n c : Nat} {m : List UInt8} (h : WrAt B w g s) (hn : n = m.length) (hc : n ≤ c) (hr : Row w a (m.map b8)) :
    Calls Tryd.prog 88 #[.pointer (some ⟨g, 0, none⟩), .slice a n c] w fun e w' => e = .returned (.tuple #[]) ∧ WrAt B w' g (putF s m) ∧ Kx B g w w' := by
  subst hn
  obtain ⟨l, full⟩ := s
  obtain ⟨v, hB, hl⟩ := h
  simp only at hB hl
  obtain ⟨va, vc, rfl, _, _, _, _⟩ := owns_at hB.own
  have c0 : w.cell? ⟨g, 0, none⟩ = some (.slice va l.length vc) := hB.blk.cell rfl
  have c1 : w.cell? ⟨g, 1, none⟩ = some (.bool full) := hB.blk.cell rfl
  have f0 := hB.blk.free 0
  have f1 := hB.blk.free 1
  have hb64 : IntKind.i64.wrap (65536 - (l.length : Int)) = 65536 - (l.length : Int) := IntWalk.i64_in _ (by omega)
  cases full with
  | true =>
    have HP : Hid (putF (l, true) m = (l, true)) := by show _ = _; unfold putF; rw [if_pos (.inl rfl)]
    have HS : Hid (WrAt B (w.setCell ⟨g, 1, none⟩ (.bool true)) g (l, true)) := ⟨_, hB.store 1 (.bool true), hl⟩
    have HK : Hid (Kx B g w (w.setCell ⟨g, 1, none⟩ (.bool true))) := Kx.set1 hB.blk _
    clear hB
    go_enter Tryd.func88, Tryd.ntmps88
    go_wp2
    refine bodyPost_ret (results_none (by rfl) _ _ _) rfl ?_
    rw [HP.out]
    exact ⟨rfl, HS.out, HK.out⟩
  | false =>
    by_cases hf : 65536 - l.length < m.length
    · have HP : Hid (putF (l, false) m = (l, true)) := by show _ = _; unfold putF; rw [if_pos (.inr hf)]
      have HS : Hid (WrAt B (w.setCell ⟨g, 1, none⟩ (.bool true)) g (l, true)) := ⟨_, hB.store 1 (.bool true), hl⟩
      have hI : 65536 - (l.length : Int) < (m.length : Int) := by omega
      have HK : Hid (Kx B g w (w.setCell ⟨g, 1, none⟩ (.bool true))) := Kx.set1 hB.blk _
      clear hB
      go_enter Tryd.func88, Tryd.ntmps88
      go_wp2
      refine bodyPost_ret (results_none (by rfl) _ _ _) rfl ?_
      rw [HP.out]
      exact ⟨rfl, HS.out, HK.out⟩
    · have HP : Hid (putF (l, false) m = (l ++ m, false)) := by show _ = _; unfold putF; rw [if_neg (by simp; omega)]
      have hI : ¬ 65536 - (l.length : Int) < (m.length : Int) := by omega
      have hsrc : Src Tryd.prog 1 26 (.slice a m.length c) m.length (m.map b8) w := Src.ofRow eB.ht a m.length c _ (by omega) (by simp) hr (bytes_one m)
      have hml : m.length ≤ 65536 := by omega
      obtain ⟨a', n', c', w2, hrun, hB2, hk, hgr, hvo⟩ := Buf.appendK (ty := 26) hB eB hsrc (by omega)
      have f0' := hB2.blk.free 0
      have e0 : w2.cell? ⟨g, 0, none⟩ = some (.slice va l.length vc) := hB2.blk.cell rfl
      have HS : Hid (WrAt B (w2.setCell ⟨g, 0, none⟩ (.slice a' n' c')) g (l ++ m, false)) := ⟨_, hB2.store 0 _, by simp; omega⟩
      have HK : Hid (Kx B g w (w2.setCell ⟨g, 0, none⟩ (.slice a' n' c'))) := Kx.app hB.blk hk hgr hB2.blk hvo
      clear hB hB2 hk hsrc hgr hvo
      go_enter Tryd.func88, Tryd.ntmps88
      go_wp2_with (at_builtin; refine wpList_append_run hrun rfl rfl rfl rfl ?_)
      go_end0
      rw [HP.out]
      exact ⟨rfl, HS.out, HK.out⟩

set_option maxHeartbeats 200000 in
theorem head_any {B g x n : Nat} {w : World} {s : List UInt8 × Bool} (lead : UInt8) (h : WrAt B w g s) (hx : x < 18446744073709551616) (h1 : 1 ≤ n) (h8 : n ≤ 8) :
    Calls Tryd.prog 107 #[.pointer (some ⟨g, 0, none⟩), .int .u8 (lead.toNat : Int), .int .u64 (x : Int), .int .i64 (n : Int)] w fun e w' => e = .returned (.tuple #[]) ∧ WrAt B w' g (putF (putF s [lead]) (putL x n).reverse) ∧ Kx B g w w' := by
  have hle := h.le
  have hgB := h.lt
  have hb0 : Below w.heap.size w (w.alloc (.cells #[b8 lead] 5)) := (Below.refl _ _).alloc (Nat.le_refl _) _
  have hrow : Row (w.alloc (.cells #[b8 lead] 5)) (some ⟨w.heap.size, 0, none⟩) ([lead].map b8) := (Blk.new w 5 #[b8 lead]).row
  have h0 := h.keep hb0
  have eb : (Value.int .u8 (lead.toNat : Int)) = b8 lead := rfl
  rw [eb]
  go_enter Tryd.func107, Tryd.ntmps107
  go_wp2_with fail
  refine (pput_any (m := [lead]) h0 (by rfl) (Nat.le_refl _) hrow).mono ?_
  rintro e w1 ⟨rfl, hw1, hk1⟩
  go_wp2_with fail
  refine (big_any x n w1 hx h1 h8).mono ?_
  rintro e w2 ⟨v2, rfl, hF⟩
  obtain ⟨a2, c2, rfl, hr2, hb2, hm2, hc2⟩ := hF.open
  have hlen : (putL x n).reverse.length = n := by simp
  generalize hM : (putL x n).reverse = M at *
  have HM := Lib.hid hM
  clear hm2 hF hM
  go_wp2_with fail
  refine (pput_any (m := M) (hw1.keep hb2) (by first | rfl | exact hlen.symm) (by first | exact hc2 | omega) hr2).mono ?_
  rintro e w3 ⟨rfl, hw3, hk3⟩
  go_wp2
  go_end0
  rw [HM.out]
  exact ⟨rfl, hw3, ((Kx.ofBelow hb0 hle hgB).trans hk1).trans ((Kx.ofBelow hb2 hw1.le hgB).trans hk3)⟩
end Go.Proofs.YtpchogicdnfggaaDoor
set_option maxRecDepth 20000
namespace Go.Proofs.YtpchogicdnfggaaDoor
open Go.RowKit Go.Hd

/-- What the writer has laid, or that it gave up. -/
def absW (s : List UInt8 × Bool) : Option (List UInt8) := if s.2 = true then none else some s.1
def putO (o : Option (List UInt8)) (m : List UInt8) : Option (List UInt8) := o.bind fun l => if 65536 < l.length + m.length then none else some (l ++ m)
def WrO (B : Nat) (w : World) (g : Nat) (o : Option (List UInt8)) : Prop := ∃ s, WrAt B w g s ∧ absW s = o
theorem WrO.keep {B g : Nat} {w w' : World} {o : Option (List UInt8)} (h : WrO B w g o) (hb : Below w.heap.size w w') : WrO B w' g o := by
  obtain ⟨s, h1, h2⟩ := h
  exact ⟨s, h1.keep hb, h2⟩
theorem WrO.le {B g : Nat} {w : World} {o : Option (List UInt8)} (h : WrO B w g o) : B ≤ w.heap.size := by
  obtain ⟨s, h1, _⟩ := h; exact h1.le
theorem WrO.lt {B g : Nat} {w : World} {o : Option (List UInt8)} (h : WrO B w g o) : g < B := by
  obtain ⟨s, h1, _⟩ := h; exact h1.lt
theorem putO_two (o : Option (List UInt8)) (a b : List UInt8) : putO (putO o a) b = putO o (a ++ b) := by
  cases o with
  | none => rfl
  | some l =>
    unfold putO
    simp only [Option.bind_some, List.length_append]
    by_cases h1 : 65536 < l.length + a.length
    · rw [if_pos h1, if_pos (by omega)]; rfl
    · rw [if_neg h1]
      simp only [Option.bind_some, List.length_append]
      by_cases h2 : 65536 < l.length + (a.length + b.length)
      · rw [if_pos h2, if_pos (by omega)]
      · rw [if_neg h2, if_neg (by omega), List.append_assoc]
theorem putF_abs {s : List UInt8 × Bool} {m : List UInt8} (hl : s.1.length ≤ 65536) : absW (putF s m) = putO (absW s) m := by
  obtain ⟨l, f⟩ := s
  cases f with
  | true => simp [putF, absW, putO]
  | false =>
    simp only at hl
    unfold putF absW putO
    by_cases h : 65536 - l.length < m.length
    · simp [h]; omega
    · simp [h]; omega
theorem WrAt.small {B g : Nat} {w : World} {s : List UInt8 × Bool} (h : WrAt B w g s) : s.1.length ≤ 65536 := by
  obtain ⟨v, _, h2⟩ := h; exact h2
theorem putF_small {s : List UInt8 × Bool} {m : List UInt8} (hl : s.1.length ≤ 65536) : (putF s m).1.length ≤ 65536 := by
  unfold putF
  split
  · exact hl
  · rename_i h; simp at h ⊢; omega
theorem put_o {B g : Nat} {w : World} {o : Option (List UInt8)} {a : Option Addr} {n c : Nat} {m : List UInt8} (h : WrO B w g o) (hn : n = m.length) (hc : n ≤ c) (hr : Row w a (m.map b8)) :
    Calls Tryd.prog 88 #[.pointer (some ⟨g, 0, none⟩), .slice a n c] w fun e w' => e = .returned (.tuple #[]) ∧ WrO B w' g (putO o m) ∧ Kx B g w w' := by
  obtain ⟨s, h1, rfl⟩ := h
  refine (pput_any h1 hn hc hr).mono ?_
  rintro e w' ⟨rfl, h2, hk⟩
  exact ⟨rfl, ⟨_, h2, putF_abs h1.small⟩, hk⟩
theorem head_o {B g x n : Nat} {w : World} {o : Option (List UInt8)} {zl zx : Int} (lead : UInt8) (h : WrO B w g o) (hzl : zl = (lead.toNat : Int)) (hzx : zx = (x : Int)) (hx : x < 18446744073709551616) (h1 : 1 ≤ n) (h8 : n ≤ 8) :
    Calls Tryd.prog 107 #[.pointer (some ⟨g, 0, none⟩), .int .u8 zl, .int .u64 zx, .int .i64 (n : Int)] w fun e w' => e = .returned (.tuple #[]) ∧ WrO B w' g (putO o (lead :: bigB x n)) ∧ Kx B g w w' := by
  subst hzl hzx
  obtain ⟨s, hs, rfl⟩ := h
  refine (head_any lead hs hx h1 h8).mono ?_
  rintro e w' ⟨rfl, h2, hk⟩
  refine ⟨rfl, ⟨_, h2, ?_⟩, hk⟩
  rw [putF_abs (putF_small hs.small), putF_abs hs.small, putO_two]
  rfl
theorem u64_nat {x : Int} : IntKind.u64.wrap x = ((u64Of x : Nat) : Int) := by
  unfold u64Of; rw [IntKind.wrap_u64]; omega
theorem u64_pos {x : Int} (h0 : 0 ≤ x) (h : x ≤ 9223372036854775807) : x = ((u64Of x : Nat) : Int) := by
  unfold u64Of; omega
theorem u64_lt (x : Int) : u64Of x < 18446744073709551616 := by unfold u64Of; omega
theorem byte_of (x : Int) : IntKind.u8.wrap x = ((UInt8.ofNat (x % 256).toNat).toNat : Int) := by
  rw [IntKind.wrap_u8, UInt8.toNat_ofNat']; try omega

set_option maxHeartbeats 2000000 in
theorem number_any {B g : Nat} {w : World} {o : Option (List UInt8)} {x : Int} (h : WrO B w g o) (hx : in64 x) :
    Calls Tryd.prog 89 #[.pointer (some ⟨g, 0, none⟩), .int .i64 x] w fun e w' => e = .returned (.tuple #[]) ∧ WrO B w' g (putO o (intB x)) ∧ Kx B g w w' := by
  obtain ⟨hx1, hx2⟩ := hx
  have hl64 := u64_lt x
  by_cases h1 : -32 ≤ x ∧ x ≤ 127
  · obtain ⟨p, q⟩ := h1
    have HB : Hid (intB x = [UInt8.ofNat (x % 256).toNat]) := by show _ = _; unfold intB; rw [if_pos ⟨p, q⟩]
    have hle := h.le
    have hgB := h.lt
    have hb0 : Below w.heap.size w (w.alloc (.cells #[b8 (UInt8.ofNat (x % 256).toNat)] 5)) := (Below.refl _ _).alloc (Nat.le_refl _) _
    have hrow : Row (w.alloc (.cells #[b8 (UInt8.ofNat (x % 256).toNat)] 5)) (some ⟨w.heap.size, 0, none⟩) ([UInt8.ofNat (x % 256).toNat].map b8) := (Blk.new w 5 #[b8 (UInt8.ofNat (x % 256).toNat)]).row
    have h0 := h.keep hb0
    have e8 : (Value.int .u8 (IntKind.u8.wrap x)) = b8 (UInt8.ofNat (x % 256).toNat) := by rw [byte_of]; try rfl
    generalize UInt8.ofNat (x % 256).toNat = c at *
    go_enter Tryd.func89, Tryd.ntmps89
    go_wp2_with fail
    refine (put_o (m := [c]) h0 (by rfl) (Nat.le_refl _) hrow).mono ?_
    rintro e w1 ⟨rfl, hw1, hk1⟩
    go_wp2
    go_end0
    rw [HB.out]
    exact ⟨rfl, hw1, (Kx.ofBelow hb0 hle hgB).trans hk1⟩
  · have hx9 := h1
    clear h1
    by_cases p0 : 0 ≤ x
    · have pm : -32 ≤ x := by omega
      have n127 : ¬ x ≤ 127 := by omega
      have eU := u64_pos p0 hx2
      have HU := Lib.hid eU
      clear eU
      by_cases q255 : x ≤ 255
      · have HB : Hid (intB x = 0xcc :: bigB (u64Of x) 1) := by show _ = _; unfold intB; rw [if_neg hx9, if_pos p0, if_pos q255]
        clear hx9
        go_enter Tryd.func89, Tryd.ntmps89
        go_wp2_with fail
        refine (head_o (x := u64Of x) (n := 1) 0xcc h (by rfl) (by first | exact HU.out | exact u64_nat) hl64 (by decide) (by decide)).mono ?_
        rintro e w1 ⟨rfl, hw1, hk1⟩
        go_wp2
        go_end0
        rw [HB.out]
        exact ⟨rfl, hw1, hk1⟩
      · by_cases q65535 : x ≤ 65535
        · have HB : Hid (intB x = 0xcd :: bigB (u64Of x) 2) := by show _ = _; unfold intB; rw [if_neg hx9, if_pos p0, if_neg q255, if_pos q65535]
          clear hx9
          go_enter Tryd.func89, Tryd.ntmps89
          go_wp2_with fail
          refine (head_o (x := u64Of x) (n := 2) 0xcd h (by rfl) (by first | exact HU.out | exact u64_nat) hl64 (by decide) (by decide)).mono ?_
          rintro e w1 ⟨rfl, hw1, hk1⟩
          go_wp2
          go_end0
          rw [HB.out]
          exact ⟨rfl, hw1, hk1⟩
        · by_cases q4294967295 : x ≤ 4294967295
          · have HB : Hid (intB x = 0xce :: bigB (u64Of x) 4) := by show _ = _; unfold intB; rw [if_neg hx9, if_pos p0, if_neg q255, if_neg q65535, if_pos q4294967295]
            clear hx9
            go_enter Tryd.func89, Tryd.ntmps89
            go_wp2_with fail
            refine (head_o (x := u64Of x) (n := 4) 0xce h (by rfl) (by first | exact HU.out | exact u64_nat) hl64 (by decide) (by decide)).mono ?_
            rintro e w1 ⟨rfl, hw1, hk1⟩
            go_wp2
            go_end0
            rw [HB.out]
            exact ⟨rfl, hw1, hk1⟩
          · have HB : Hid (intB x = 0xcf :: bigB (u64Of x) 8) := by show _ = _; unfold intB; rw [if_neg hx9, if_pos p0, if_neg q255, if_neg q65535, if_neg q4294967295]
            clear hx9
            go_enter Tryd.func89, Tryd.ntmps89
            go_wp2_with fail
            refine (head_o (x := u64Of x) (n := 8) 0xcf h (by rfl) (by first | exact HU.out | exact u64_nat) hl64 (by decide) (by decide)).mono ?_
            rintro e w1 ⟨rfl, hw1, hk1⟩
            go_wp2
            go_end0
            rw [HB.out]
            exact ⟨rfl, hw1, hk1⟩
    · have nm : ¬ -32 ≤ x := by omega
      by_cases q128 : -128 ≤ x
      · have HB : Hid (intB x = 0xd0 :: bigB (u64Of x) 1) := by show _ = _; unfold intB; rw [if_neg hx9, if_neg p0, if_pos q128]
        clear hx9
        go_enter Tryd.func89, Tryd.ntmps89
        go_wp2_with fail
        refine (head_o (x := u64Of x) (n := 1) 0xd0 h (by rfl) (by first | exact u64_nat | exact u64_nat) hl64 (by decide) (by decide)).mono ?_
        rintro e w1 ⟨rfl, hw1, hk1⟩
        go_wp2
        go_end0
        rw [HB.out]
        exact ⟨rfl, hw1, hk1⟩
      · by_cases q32768 : -32768 ≤ x
        · have HB : Hid (intB x = 0xd1 :: bigB (u64Of x) 2) := by show _ = _; unfold intB; rw [if_neg hx9, if_neg p0, if_neg q128, if_pos q32768]
          clear hx9
          go_enter Tryd.func89, Tryd.ntmps89
          go_wp2_with fail
          refine (head_o (x := u64Of x) (n := 2) 0xd1 h (by rfl) (by first | exact u64_nat | exact u64_nat) hl64 (by decide) (by decide)).mono ?_
          rintro e w1 ⟨rfl, hw1, hk1⟩
          go_wp2
          go_end0
          rw [HB.out]
          exact ⟨rfl, hw1, hk1⟩
        · by_cases q2147483648 : -2147483648 ≤ x
          · have HB : Hid (intB x = 0xd2 :: bigB (u64Of x) 4) := by show _ = _; unfold intB; rw [if_neg hx9, if_neg p0, if_neg q128, if_neg q32768, if_pos q2147483648]
            clear hx9
            go_enter Tryd.func89, Tryd.ntmps89
            go_wp2_with fail
            refine (head_o (x := u64Of x) (n := 4) 0xd2 h (by rfl) (by first | exact u64_nat | exact u64_nat) hl64 (by decide) (by decide)).mono ?_
            rintro e w1 ⟨rfl, hw1, hk1⟩
            go_wp2
            go_end0
            rw [HB.out]
            exact ⟨rfl, hw1, hk1⟩
          · have HB : Hid (intB x = 0xd3 :: bigB (u64Of x) 8) := by show _ = _; unfold intB; rw [if_neg hx9, if_neg p0, if_neg q128, if_neg q32768, if_neg q2147483648]
            clear hx9
            go_enter Tryd.func89, Tryd.ntmps89
            go_wp2_with fail
            refine (head_o (x := u64Of x) (n := 8) 0xd3 h (by rfl) (by first | exact u64_nat | exact u64_nat) hl64 (by decide) (by decide)).mono ?_
            rintro e w1 ⟨rfl, hw1, hk1⟩
            go_wp2
            go_end0
            rw [HB.out]
            exact ⟨rfl, hw1, hk1⟩
end Go.Proofs.YtpchogicdnfggaaDoor
set_option maxRecDepth 20000
namespace Go.Proofs.YtpchogicdnfggaaDoor
open Go.RowKit Go.Hd

theorem WrO.cells {B g : Nat} {w : World} {o : Option (List UInt8)} (h : WrO B w g o) : ∃ v full, w.cell? ⟨g, 1, none⟩ = some (.bool full) ∧ w.cell? ⟨g, 0, none⟩ = some v ∧ w.frozen? ⟨g, 1, none⟩ = false := by
  obtain ⟨s, ⟨v, hB, _⟩, _⟩ := h
  exact ⟨v, s.2, hB.blk.cell rfl, hB.blk.cell rfl, hB.blk.free 1⟩
theorem WrO.fail {B g : Nat} {w : World} {o : Option (List UInt8)} (h : WrO B w g o) : WrO B (w.setCell ⟨g, 1, none⟩ (.bool true)) g none := by
  obtain ⟨s, ⟨v, hB, hl⟩, _⟩ := h
  exact ⟨(s.1, true), ⟨v, hB.store 1 (.bool true), hl⟩, rfl⟩
theorem putO_none (m : List UInt8) : putO none m = none := rfl
/-- Bytes behind a head of one or two bytes. -/
def blobO (o : Option (List UInt8)) (m : List UInt8) : Option (List UInt8) :=
  if m.length ≤ 255 then putO o (0xc4 :: (bigB m.length 1 ++ m)) else if m.length ≤ 65535 then putO o (0xc5 :: (bigB m.length 2 ++ m)) else none
theorem WrO.setx {B g : Nat} {w : World} {o : Option (List UInt8)} (h : WrO B w g o) (y : Value) : Kx B g w (w.setCell ⟨g, 1, none⟩ y) := by
  obtain ⟨s, ⟨v, hB, _⟩, _⟩ := h
  exact Kx.set1 hB.blk _
/-- What was there ahead of the writer is as it was. -/
theorem Kp.past {B g base : Nat} {a b : World} (h : Kp B (some g) a b) (hg : base ≤ g) (hB : g < B) : Below base a b :=
  h.below (by omega) (fun k hk => by cases hk; exact hg)
set_option maxHeartbeats 1000000 in
theorem blob_any {B g : Nat} {w0 w : World} {o : Option (List UInt8)} {a : Option Addr} {n c : Nat} {m : List UInt8} (h : WrO B w g o) (hn : n = m.length) (hc : n ≤ c) (hr : Row w0 a (m.map b8)) (hb : Below w0.heap.size w0 w) (hg : w0.heap.size ≤ g) :
    Calls Tryd.prog 90 #[.pointer (some ⟨g, 0, none⟩), .slice a n c] w fun e w' => e = .returned (.tuple #[]) ∧ WrO B w' g (blobO o m) ∧ Kx B g w w' := by
  subst hn
  obtain ⟨v0, full, c1, c0, f1⟩ := h.cells
  have hgB := h.lt
  by_cases h1 : m.length ≤ 255
  · have HB : Hid (blobO o m = putO (putO o (0xc4 :: bigB m.length 1)) m) := by show _ = _; unfold blobO; rw [if_pos h1, putO_two]; rfl
    have i1 : (m.length : Int) ≤ 255 := by omega
    go_enter Tryd.func90, Tryd.ntmps90
    go_wp2_with fail
    refine (head_o (x := m.length) (n := 1) 0xc4 h (by rfl) (by first | rfl | (rw [IntKind.wrap_u64]; omega)) (by omega) (by decide) (by decide)).mono ?_
    rintro e w1 ⟨rfl, hw1, hk1⟩
    go_wp2_with fail
    refine (put_o (m := m) hw1 rfl hc (hr.below (hb.trans (Kp.past hk1.kp hg hgB)))).mono ?_
    rintro e w2 ⟨rfl, hw2, hk2⟩
    go_wp2
    go_end0
    rw [HB.out]
    exact ⟨rfl, hw2, hk1.trans hk2⟩
  · have i1 : ¬ (m.length : Int) ≤ 255 := by omega
    by_cases h2 : m.length ≤ 65535
    · have HB : Hid (blobO o m = putO (putO o (0xc5 :: bigB m.length 2)) m) := by show _ = _; unfold blobO; rw [if_neg h1, if_pos h2, putO_two]; rfl
      have i2 : (m.length : Int) ≤ 65535 := by omega
      clear h1
      go_enter Tryd.func90, Tryd.ntmps90
      go_wp2_with fail
      refine (head_o (x := m.length) (n := 2) 0xc5 h (by rfl) (by first | rfl | (rw [IntKind.wrap_u64]; omega)) (by omega) (by decide) (by decide)).mono ?_
      rintro e w1 ⟨rfl, hw1, hk1⟩
      go_wp2_with fail
      refine (put_o (m := m) hw1 rfl hc (hr.below (hb.trans (Kp.past hk1.kp hg hgB)))).mono ?_
      rintro e w2 ⟨rfl, hw2, hk2⟩
      go_wp2
      go_end0
      rw [HB.out]
      exact ⟨rfl, hw2, hk1.trans hk2⟩
    · have HB : Hid (blobO o m = putO none m) := by show _ = _; unfold blobO; rw [if_neg h1, if_neg h2, putO_none]
      have i2 : ¬ (m.length : Int) ≤ 65535 := by omega
      have hf := h.fail
      have hk1 : Kx B g w (w.setCell ⟨g, 1, none⟩ (.bool true)) := h.setx _
      have hrow := hr.below (hb.trans (Kp.past hk1.kp hg hgB))
      generalize hW : w.setCell ⟨g, 1, none⟩ (.bool true) = w1 at *
      clear h1 h2
      go_enter Tryd.func90, Tryd.ntmps90
      go_wp2_with fail
      refine (put_o (m := m) hf rfl hc hrow).mono ?_
      rintro e w2 ⟨rfl, hw2, hk2⟩
      go_wp2
      go_end0
      rw [HB.out]
      exact ⟨rfl, hw2, hk1.trans hk2⟩
end Go.Proofs.YtpchogicdnfggaaDoor
set_option maxRecDepth 20000
namespace Go.Proofs.YtpchogicdnfggaaDoor
open Go.RowKit Go.Hd

/-- A head by how many there are. -/
def manyO (few lead : UInt8) (o : Option (List UInt8)) (n : Nat) : Option (List UInt8) :=
  if n ≤ 15 then putO o [few ||| UInt8.ofNat n] else if n ≤ 65535 then putO o (lead :: bigB n 2) else none
theorem or_few (few : UInt8) (hf : few = 0x90 ∨ few = 0x80) : ∀ n : Nat, n ≤ 15 → bits BinOp.or IntKind.u8 (few.toNat : Int) (n : Int) = ((few ||| UInt8.ofNat n).toNat : Int) := by
  intro n hn
  rcases hf with rfl | rfl <;> (match n, hn with
    | 0, _ | 1, _ | 2, _ | 3, _ | 4, _ | 5, _ | 6, _ | 7, _ | 8, _ | 9, _ | 10, _ | 11, _ | 12, _ | 13, _ | 14, _ | 15, _ => rfl)
set_option maxHeartbeats 1000000 in
theorem many_any {B g n : Nat} {w : World} {o : Option (List UInt8)} (few lead : UInt8) (hfew : few = 0x90 ∨ few = 0x80) (h : WrO B w g o) (hm : n ≤ maxLen) :
    Calls Tryd.prog 92 #[.pointer (some ⟨g, 0, none⟩), .int .u8 (few.toNat : Int), .int .u8 (lead.toNat : Int), .int .i64 (n : Int)] w fun e w' => e = .returned (.tuple #[]) ∧ WrO B w' g (manyO few lead o n) ∧ Kx B g w w' := by
  unfold maxLen at hm
  obtain ⟨v0, full, c1, c0, f1⟩ := h.cells
  have hle := h.le
  by_cases h1 : n ≤ 15
  · have HB : Hid (manyO few lead o n = putO o [few ||| UInt8.ofNat n]) := by show _ = _; unfold manyO; rw [if_pos h1]
    have i1 : (n : Int) ≤ 15 := by omega
    have HOR := Lib.hid (or_few few hfew n h1)
    clear c1 c0 f1 hm
    go_enter Tryd.func92, Tryd.ntmps92
    go_wp2_with fail
    rw [HOR.out]
    have hb0 : Below w.heap.size w (w.alloc (.cells #[b8 (few ||| UInt8.ofNat n)] 5)) := (Below.refl _ _).alloc (Nat.le_refl _) _
    have hrow : Row (w.alloc (.cells #[b8 (few ||| UInt8.ofNat n)] 5)) (some ⟨w.heap.size, 0, none⟩) ([few ||| UInt8.ofNat n].map b8) := (Blk.new w 5 #[b8 (few ||| UInt8.ofNat n)]).row
    refine (put_o (m := [few ||| UInt8.ofNat n]) (h.keep hb0) (by rfl) (Nat.le_refl _) hrow).mono ?_
    rintro e w1 ⟨rfl, hw1, hk1⟩
    go_wp2
    go_end0
    rw [HB.out]
    exact ⟨rfl, hw1, (Kx.ofBelow hb0 hle h.lt).trans hk1⟩
  · have i1 : ¬ (n : Int) ≤ 15 := by omega
    by_cases h2 : n ≤ 65535
    · have HB : Hid (manyO few lead o n = putO o (lead :: bigB n 2)) := by show _ = _; unfold manyO; rw [if_neg h1, if_pos h2]
      have i2 : (n : Int) ≤ 65535 := by omega
      go_enter Tryd.func92, Tryd.ntmps92
      go_wp2_with fail
      refine (head_o (x := n) (n := 2) lead h (by rfl) (by first | rfl | (rw [IntKind.wrap_u64]; omega)) (by omega) (by decide) (by decide)).mono ?_
      rintro e w1 ⟨rfl, hw1, hk1⟩
      go_wp2
      go_end0
      rw [HB.out]
      exact ⟨rfl, hw1, hk1⟩
    · have HB : Hid (manyO few lead o n = none) := by show _ = _; unfold manyO; rw [if_neg h1, if_neg h2]
      have i2 : ¬ (n : Int) ≤ 65535 := by omega
      have hf := h.fail
      have hk1 : Kx B g w (w.setCell ⟨g, 1, none⟩ (.bool true)) := h.setx _
      go_enter Tryd.func92, Tryd.ntmps92
      go_wp2
      go_end0
      rw [HB.out]
      exact ⟨rfl, hf, hk1⟩
end Go.Proofs.YtpchogicdnfggaaDoor
set_option maxRecDepth 20000
namespace Go.Hd
open Go Go.RowKit

/-- v is the call's own and holds l; a mark may stand behind its cells. -/
def OwnQ (E : TypeId) (w : World) (base : Nat) (v : Value) (l : List UInt8) : Prop :=
  ∃ g cap cur fz, v = .slice (some ⟨g, 0, none⟩) l.length cap ∧ base ≤ g ∧ w.heap[g]? = some (.cells cur E fz) ∧ (cur.size ≤ fz.1 ∨ fz.2 = 0) ∧ l.length ≤ cap ∧ cap ≤ maxLen ∧ cur.size = cap ∧ cur.toList.take l.length = l.map b8
theorem OwnQ.at {E : TypeId} {w : World} {base : Nat} {v : Value} {l : List UInt8} (h : OwnQ E w base v l) : ∃ a c, v = .slice a l.length c ∧ l.length ≤ c ∧ c ≤ maxLen ∧ Row w a (l.map b8) := by
  obtain ⟨g, cap, cur, fz, rfl, hb, hgg, _, hc, hm, hs, ht⟩ := h
  refine ⟨_, cap, rfl, hc, hm, fun _ => rfl, fun i u hu => ?_⟩
  have e : (hd (some ⟨g, 0, none⟩)).add i = ⟨g, i, none⟩ := by unfold Addr.add; simp; omega
  rw [e, cell_of_row w g i cur E fz hgg]
  rw [← ht, List.getElem?_take] at hu
  split at hu
  · simpa using hu
  · cases hu
/-! A text made bytes. -/
def cvOp (t u : TypeId) (x : Value) : Sem Value := convert t u x
def cvW (E : TypeId) (w : World) (l : List UInt8) : World := Lib.bytesWorld w E (str l)
def cvC (E : TypeId) (w : World) (l : List UInt8) : Nat := grownCap w l.length 0 E
theorem cvOp_run {P : Program} {t u E : TypeId} {w : World} {l : List UInt8} {d : TypeDesc} (ht : P.underlying t = some d) (hu : P.underlying u = some (.slice E)) (he : P.underlying E = some (.int .u8)) :
    (cvOp t u (.string (str l))).run P w = .ok (.slice (some ⟨w.heap.size, 0, none⟩) l.length (cvC E w l)) (cvW E w l) := by
  have := Lib.run_convert_string_bytes (P := P) w t u E (str l) ht hu he
  rw [str_size] at this
  exact this
theorem cvW_below (E : TypeId) (w : World) (l : List UInt8) : Below w.heap.size w (cvW E w l) := by
  have h : ∀ (a : Addr) (n : Nat), w.drew.heap.size ≤ a.block → Below w.heap.size w ((w.drew.alloc (.cells (Lib.bytesCells w E (str l)) E)).freeze a n) := by
    intro a n ha
    have h0 : Below w.heap.size w (w.drew.alloc (.cells (Lib.bytesCells w E (str l)) E)) := (Below.drewN (Below.refl _ _) 1).alloc (Nat.le_refl _) _
    unfold World.freeze
    split
    · exact h0
    · refine ⟨h0.os, h0.tape, h0.output, by simp, fun i hi => ?_⟩
      rw [← h0.block i hi]
      simp only [Array.getElem?_modify]
      rw [if_neg (by have : w.drew.heap.size = w.heap.size := rfl; omega)]
  exact h ⟨w.heap.size, (Lib.bytesCells w E (str l)).size, none⟩ 1 (Nat.le_refl _)
theorem cvW_own {E : TypeId} {w : World} {l : List UInt8} {base : Nat} (hb : base ≤ w.heap.size) (hl : l.length ≤ maxLen) : OwnQ E (cvW E w l) base (.slice (some ⟨w.heap.size, 0, none⟩) l.length (cvC E w l)) l := by
  have hge := grownCap_ge w l.length 0 E
  refine ⟨w.heap.size, cvC E w l, _, _, rfl, hb, Lib.bytesWorld_at_new w E (str l), .inl (Nat.le_refl _), hge, grownCap_le_maxLen w l.length 0 E hl, ?_, ?_⟩
  · simp only [Lib.bytesCells, Array.size_append, Array.size_map, Array.size_replicate, cvC, str]
    simp only [ByteArray.size, List.size_toArray]
    omega
  · simp only [Lib.bytesCells, str, Array.toList_append, Array.toList_map]
    exact List.take_left' (by simp)
/-- Read. -/
def BRd (w : World) (v : Value) (l : List UInt8) : Prop := ∃ a c, v = .slice a l.length c ∧ l.length ≤ c ∧ c ≤ maxLen ∧ Row w a (l.map b8)
theorem BRd.nil (w : World) : BRd w (.slice none 0 0) [] := ⟨none, 0, rfl, Nat.le_refl _, Nat.zero_le _, Row.nil _ _⟩
theorem OwnQ.rd {E : TypeId} {w : World} {base : Nat} {v : Value} {l : List UInt8} (h : OwnQ E w base v l) : BRd w v l := h.at
theorem BRd.below {w w' : World} {v : Value} {l : List UInt8} (h : BRd w v l) (hb : Below w.heap.size w w') : BRd w' v l := by
  obtain ⟨a, c, h1, h2, h3, h4⟩ := h
  exact ⟨a, c, h1, h2, h3, h4.below hb⟩
end Go.Hd
set_option maxRecDepth 20000
namespace Go.Proofs.YtpchogicdnfggaaDoor
open Go.RowKit Go.Hd

section
variable (ρ : Operand → Value) (dst : Option Tmp) (ty : TypeId) (pos : String) (after : Array Edge) (guard : Option (Nat × Bool))
theorem h_cv (x : Operand) : execOp ρ { dst, op := .convert 9 26 x, type := ty, pos, after, guard } = (do pure (.value (← cvOp 9 26 (ρ x)))) := rfl
end
theorem r_cv {w : World} {l : List UInt8} : (cvOp 9 26 (.string (str l))).run Tryd.prog w = .ok (.slice (some ⟨w.heap.size, 0, none⟩) l.length (cvC 5 w l)) (cvW 5 w l) := cvOp_run Tryd.underlying9 Tryd.underlying26 Tryd.underlying5
attribute [local go_sem ↓] h_cv
attribute [local go_sem] r_cv
theorem or_text : ∀ n : Nat, n ≤ 31 → bits BinOp.or IntKind.u8 160 (n : Int) = (((0xa0 : UInt8) ||| UInt8.ofNat n).toNat : Int) := by
  intro n hn
  have h : ∀ k : Fin 32, bits BinOp.or IntKind.u8 160 (k.val : Int) = (((0xa0 : UInt8) ||| UInt8.ofNat k.val).toNat : Int) := by decide
  exact h ⟨n, by omega⟩
def textO (o : Option (List UInt8)) (m : List UInt8) : Option (List UInt8) :=
  if m.length ≤ 31 then putO o ((0xa0 ||| UInt8.ofNat m.length) :: m) else if m.length ≤ 255 then putO o (0xd9 :: (bigB m.length 1 ++ m)) else if m.length ≤ 65535 then putO o (0xda :: (bigB m.length 2 ++ m)) else none
/-- The last step: the text's bytes. -/
theorem put_text {B g : Nat} {w : World} {o : Option (List UInt8)} {m : List UInt8} (h : WrO B w g o) (hm : m.length ≤ maxLen) :
    Calls Tryd.prog 88 #[.pointer (some ⟨g, 0, none⟩), .slice (some ⟨w.heap.size, 0, none⟩) m.length (cvC 5 w m)] (cvW 5 w m) fun e w' => e = .returned (.tuple #[]) ∧ WrO B w' g (putO o m) ∧ Kx B g w w' := by
  obtain ⟨a, c, he, hc, _, hrow⟩ := (cvW_own (E := 5) (w := w) (Nat.le_refl _) hm).rd
  simp only [Value.slice.injEq] at he
  obtain ⟨rfl, _, rfl⟩ := he
  refine (put_o (m := m) (h.keep (cvW_below 5 w m)) rfl hc hrow).mono ?_
  rintro e w' ⟨rfl, h2, hk⟩
  exact ⟨rfl, h2, (Kx.ofBelow (cvW_below 5 w m) h.le h.lt).trans hk⟩
set_option maxHeartbeats 1000000 in
theorem text_o {B g : Nat} {w : World} {o : Option (List UInt8)} {m : List UInt8} (h : WrO B w g o) (hm : m.length ≤ maxLen) :
    Calls Tryd.prog 91 #[.pointer (some ⟨g, 0, none⟩), .string (str m)] w fun e w' => e = .returned (.tuple #[]) ∧ WrO B w' g (textO o m) ∧ Kx B g w w' := by
  have hM := hm
  unfold maxLen at hM
  obtain ⟨v0, full, c1, c0, f1⟩ := h.cells
  have hle := h.le
  have hsz : (str m).size = m.length := str_size m
  by_cases h1 : m.length ≤ 31
  · have HB : Hid (textO o m = putO (putO o [0xa0 ||| UInt8.ofNat m.length]) m) := by show _ = _; unfold textO; rw [if_pos h1, putO_two]; rfl
    have i1 : (m.length : Int) ≤ 31 := by omega
    have HOR := Lib.hid (or_text m.length h1)
    clear c1 c0 f1
    go_enter Tryd.func91, Tryd.ntmps91
    go_wp2_with fail
    rw [HOR.out]
    have hb0 : Below w.heap.size w (w.alloc (.cells #[b8 (0xa0 ||| UInt8.ofNat m.length)] 5)) := (Below.refl _ _).alloc (Nat.le_refl _) _
    have hrow : Row (w.alloc (.cells #[b8 (0xa0 ||| UInt8.ofNat m.length)] 5)) (some ⟨w.heap.size, 0, none⟩) ([0xa0 ||| UInt8.ofNat m.length].map b8) := (Blk.new w 5 #[b8 (0xa0 ||| UInt8.ofNat m.length)]).row
    refine (put_o (m := [0xa0 ||| UInt8.ofNat m.length]) (h.keep hb0) (by rfl) (Nat.le_refl _) hrow).mono ?_
    rintro e w1 ⟨rfl, hw1, hk1⟩
    go_wp2_with fail
    refine (put_text hw1 hm).mono ?_
    rintro e w2 ⟨rfl, hw2, hk2⟩
    go_wp2
    go_end0
    rw [HB.out]
    exact ⟨rfl, hw2, ((Kx.ofBelow hb0 hle h.lt).trans hk1).trans hk2⟩
  · have i1 : ¬ (m.length : Int) ≤ 31 := by omega
    by_cases h2 : m.length ≤ 255
    · have i2 : (m.length : Int) ≤ 255 := by omega
      have HB : Hid (textO o m = putO (putO o (0xd9 :: bigB m.length 1)) m) := by show _ = _; unfold textO; rw [if_neg h1, if_pos h2, putO_two]; rfl
      go_enter Tryd.func91, Tryd.ntmps91
      go_wp2_with fail
      refine (head_o (x := m.length) (n := 1) 0xd9 h (by rfl) (by first | rfl | (rw [IntKind.wrap_u64]; omega)) (by omega) (by decide) (by decide)).mono ?_
      rintro e w1 ⟨rfl, hw1, hk1⟩
      go_wp2_with fail
      refine (put_text hw1 hm).mono ?_
      rintro e w2 ⟨rfl, hw2, hk2⟩
      go_wp2
      go_end0
      rw [HB.out]
      exact ⟨rfl, hw2, hk1.trans hk2⟩
    · have i2 : ¬ (m.length : Int) ≤ 255 := by omega
      by_cases h3 : m.length ≤ 65535
      · have i3 : (m.length : Int) ≤ 65535 := by omega
        have HB : Hid (textO o m = putO (putO o (0xda :: bigB m.length 2)) m) := by show _ = _; unfold textO; rw [if_neg h1, if_neg h2, if_pos h3, putO_two]; rfl
        go_enter Tryd.func91, Tryd.ntmps91
        go_wp2_with fail
        refine (head_o (x := m.length) (n := 2) 0xda h (by rfl) (by first | rfl | (rw [IntKind.wrap_u64]; omega)) (by omega) (by decide) (by decide)).mono ?_
        rintro e w1 ⟨rfl, hw1, hk1⟩
        go_wp2_with fail
        refine (put_text hw1 hm).mono ?_
        rintro e w2 ⟨rfl, hw2, hk2⟩
        go_wp2
        go_end0
        rw [HB.out]
        exact ⟨rfl, hw2, hk1.trans hk2⟩
      · have i3 : ¬ (m.length : Int) ≤ 65535 := by omega
        have HB : Hid (textO o m = putO none m) := by show _ = _; unfold textO; rw [if_neg h1, if_neg h2, if_neg h3]; rfl
        have hf := h.fail
        have hk1 : Kx B g w (w.setCell ⟨g, 1, none⟩ (.bool true)) := h.setx _
        have hpt := put_text (m := m) hf hm
        generalize hW : w.setCell ⟨g, 1, none⟩ (.bool true) = w1 at *
        clear h1 h2 h3
        go_enter Tryd.func91, Tryd.ntmps91
        go_wp2_with fail
        refine hpt.mono ?_
        rintro e w2 ⟨rfl, hw2, hk2⟩
        go_wp2
        go_end0
        rw [HB.out]
        exact ⟨rfl, hw2, hk1.trans hk2⟩
end Go.Proofs.YtpchogicdnfggaaDoor
