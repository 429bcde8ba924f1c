/- Layer 23: names, times. -/
import Derived.Test.YtakliplkabgmbaaM1
import Derived.Test.YtakliplkabgmbaaW2
import Derived.Deep.CutBlock
import Derived.Deep.DeepCutAuto
set_option maxRecDepth 20000
namespace Go.Hd
theorem add_base0 (g i : Nat) : (hd (some ⟨g, 0, none⟩)).add i = ⟨g, i, none⟩ := by
  show Addr.add ⟨g, 0, none⟩ i = _
  rw [Addr.add_mid, Nat.zero_add]
def nameC (c : UInt8) : Bool := !(decide (c.toNat < 33)) && !(decide (126 < c.toNat)) && !(c == 47)
def nameB (s : List UInt8) : Bool := decide (1 ≤ s.length) && decide (s.length ≤ 32) && s.all nameC
def timelyB (t : Int) : Bool := decide (-1099511627776 ≤ t) && decide (t ≤ 1099511627776)
def nameE (s : List UInt8) : Int := if nameB s then 0 else 7
end Go.Hd
namespace Go.Proofs.Ytakliplkabgmbaa
open Go.RowKit Go.Hd
attribute [local go_sem ↓] h_cv
attribute [local go_sem] r_cv

set_option maxHeartbeats 1000000 in
theorem checkName_any (s : List UInt8) (w : World) (hs : s.length ≤ maxLen) :
    Calls Try.prog 10 #[.string (str s)] w fun e w' => e = .returned (.int .i64 (nameE s)) ∧ Below w.heap.size w w' := by
  have hz : (str s).size = s.length := str_size s
  have HN : Hid (nameE s = if nameB s then 0 else 7) := rfl
  by_cases h1 : s.length < 1
  · have i1 : (s.length : Int) < 1 := by omega
    have hR : Hid (nameE s = 7) := by show _ = _; rw [HN.out, if_neg]; unfold nameB; rw [decide_eq_false (by omega)]; simp
    clear h1 HN
    go_enter Try.func10, Try.ntmps10
    go_wp2
    go_ret
    exact ⟨by rw [hR.out] <;> rfl, Below.refl _ _⟩
  have i1 : ¬ (s.length : Int) < 1 := by omega
  by_cases h2 : 32 < s.length
  · have i2 : (32 : Int) < (s.length : Int) := by omega
    have hR : Hid (nameE s = 7) := by show _ = _; rw [HN.out, if_neg]; unfold nameB; rw [decide_eq_false (p := s.length ≤ 32) (by omega)]; simp
    clear h1 h2 HN
    go_enter Try.func10, Try.ntmps10
    go_wp2
    go_ret
    exact ⟨by rw [hR.out] <;> rfl, Below.refl _ _⟩
  have i2 : ¬ (32 : Int) < (s.length : Int) := by omega
  have hR0 : Hid (nameE s = if s.all nameC then 0 else 7) := by
    show _ = _
    rw [HN.out]; unfold nameB; rw [decide_eq_true (show 1 ≤ s.length by omega), decide_eq_true (show s.length ≤ 32 by omega)]; rfl
  have hrow : Hid (Row (cvW 5 w s) (some ⟨w.heap.size, 0, none⟩) (s.map b8)) := by
    obtain ⟨a, c, hv, _, _, hr⟩ := (cvW_own (E := 5) (w := w) (l := s) (Nat.le_refl _) hs).at
    cases hv
    exact hr
  have hb0 : Hid (Below w.heap.size w (cvW 5 w s)) := cvW_below _ _ _
  clear HN h1
  go_enter Try.func10, Try.ntmps10
  go_upto_block 1 with (fail)
  generalize cvW 5 w s = W at *
  generalize cvC 5 w s = C at *
  go_wp2
  go_loopw [16] (fun i wr => ∃ j : Nat, j ≤ s.length ∧ i = .int .i64 j ∧ Hid ((s.take j).all nameC = true) ∧ Hid (wr = W)) (fun i _ => s.length - (intOf i).toNat)
  case atStart => exact ⟨0, Nat.zero_le _, rfl, Lib.hid rfl, Lib.hid rfl⟩
  case round =>
    obtain ⟨j, hj, rfl, hall, hwr⟩ := hrel
    have hwr := hwr.out
    subst hwr
    have j0 : (0 : Int) ≤ (j : Int) := by omega
    have jb : IntKind.i64.wrap ((j : Int) + 1) = (j : Int) + 1 := IntWalk.i64_in _ (by omega)
    by_cases hlt : j < s.length
    · have j1 : (j : Int) < (s.length : Int) := by omega
      have q1 : wr.cell? ⟨w.heap.size, j, none⟩ = some (.int .u8 ((s[j]'hlt).toNat : Int)) := by
        have := hrow.out.byte hlt
        rwa [add_base0] at this
      have hA : Hid (nameC (s[j]'hlt) = true → (s.take (j + 1)).all nameC = true) := fun h => by
        rw [List.take_succ_eq_append_getElem hlt, List.all_append, hall.out]; simp [h]
      have hN : Hid (nameC (s[j]'hlt) = false → nameE s = 7) := fun h => by
        rw [hR0.out, if_neg]
        intro h2
        rw [List.all_eq_true.1 h2 _ (List.getElem_mem hlt)] at h; cases h
      have hv : Hid (nameC (s[j]'hlt) = (!(decide ((s[j]'hlt).toNat < 33)) && !(decide (126 < (s[j]'hlt).toNat)) && !((s[j]'hlt) == 47))) := rfl
      have t47 : (((s[j]'hlt).toNat : Int) == 47) = (s[j]'hlt == 47) := by
        rw [Bool.eq_iff_iff, beq_iff_eq, beq_iff_eq]
        exact ⟨fun h => UInt8.toNat_inj.1 (by have h47 : (47 : UInt8).toNat = 47 := rfl; omega), fun h => by rw [h]; rfl⟩
      clear hall hR0 hrow
      generalize (s[j]'hlt == 47) = b3 at *
      generalize nameC (s[j]'hlt) = b0 at *
      generalize (s[j]'hlt).toNat = x at *
      by_cases c1 : x < 33
      · have d1 : (x : Int) < 33 := by omega
        have hR := Lib.hid (hN.out (by rw [hv.out, decide_eq_true c1]; rfl))
        clear hA hN hv
        go_wp2
        go_ret
        exact ⟨by rw [hR.out] <;> rfl, hb0.out⟩
      · have d1 : ¬ (x : Int) < 33 := by omega
        by_cases c2 : 126 < x
        · have d2 : (126 : Int) < (x : Int) := by omega
          have hR := Lib.hid (hN.out (by rw [hv.out, decide_eq_true c2]; simp))
          clear hA hN hv
          go_wp2
          go_ret
          exact ⟨by rw [hR.out] <;> rfl, hb0.out⟩
        · have d2 : ¬ (126 : Int) < (x : Int) := by omega
          cases b3
          · have hA2 := Lib.hid (hA.out (by rw [hv.out, decide_eq_false c1, decide_eq_false c2]; rfl))
            clear hA hN hv
            go_wp2
            first
              | exact ⟨⟨j + 1, by omega, (by first | rfl | go_num | (congr 1; omega)), hA2, (by first | exact Lib.hid rfl | exact Lib.hid trivial)⟩, by simp [intOf] <;> omega⟩
              | (refine ⟨?_, by simp [intOf] <;> omega⟩; (repeat apply Exists.intro); exact ⟨⟨j + 1, by omega, (by first | rfl | go_num | (congr 1; omega)), hA2, (by first | exact Lib.hid rfl | exact Lib.hid trivial)⟩, rfl⟩)
          · have hR := Lib.hid (hN.out (by rw [hv.out]; simp))
            clear hA hN hv
            go_wp2
            go_ret
            exact ⟨by rw [hR.out] <;> rfl, hb0.out⟩
    · have j1 : ¬ (j : Int) < (s.length : Int) := by omega
      have hR : Hid (nameE s = 0) := by
        show _ = _
        have h := hall.out
        rw [show j = s.length by omega, List.take_length] at h
        rw [hR0.out, if_pos h]
      clear hall hR0
      go_wp2
      go_ret
      exact ⟨by rw [hR.out] <;> rfl, hb0.out⟩
set_option maxHeartbeats 1000000 in
theorem rname_any (s : List UInt8) (w : World) (hs : s.length ≤ 100000000) :
    Calls Try.prog 9 #[.string (str s)] w fun e w' => e = .returned (.bool (nameB s)) ∧ w = w' := by
  have hz : (str s).size = s.length := str_size s
  have HN : Hid (nameB s = (decide (1 ≤ s.length) && decide (s.length ≤ 32) && s.all nameC)) := rfl
  have HS := Lib.hid hs
  clear hs
  go_enter Try.func9, Try.ntmps9
  go_wp2
  go_loopw [3] (fun i wr => ∃ j : Nat, j ≤ s.length ∧ i = .int .i64 j ∧ Hid ((s.take j).all nameC = true) ∧ Hid (wr = w)) (fun i _ => s.length - (intOf i).toNat)
  case atStart => exact ⟨0, Nat.zero_le _, rfl, Lib.hid rfl, Lib.hid rfl⟩
  case round =>
    obtain ⟨j, hj, rfl, hall, hwr⟩ := hrel
    have hwr := hwr.out
    subst hwr
    have j0 : (0 : Int) ≤ (j : Int) := by omega
    have jb : IntKind.i64.wrap ((j : Int) + 1) = (j : Int) + 1 := IntWalk.i64_in _ (by have := HS.out; omega)
    by_cases hlt : j < s.length
    · have j1 : (j : Int) < (s.length : Int) := by omega
      have hsz : j < (str s).size := by rw [hz]; exact hlt
      have hat : ((str s)[j]'hsz) = s[j]'hlt := by show (str s).data[j] = _; simp [str]
      have hA : Hid (nameC ((str s)[j]'hsz) = true → (s.take (j + 1)).all nameC = true) := fun h => by
        rw [hat] at h
        rw [List.take_succ_eq_append_getElem hlt, List.all_append, hall.out]; simp [h]
      have hN : Hid (nameC ((str s)[j]'hsz) = false → nameB s = false) := fun h => by
        rw [hat] at h
        rw [HN.out]
        have : s.all nameC = false := by
          rcases Bool.eq_false_or_eq_true (s.all nameC) with h2 | h2
          · rw [List.all_eq_true.1 h2 _ (List.getElem_mem hlt)] at h; cases h
          · exact h2
        rw [this, Bool.and_false]
      have hv : Hid (nameC ((str s)[j]'hsz) = (!(decide (((str s)[j]'hsz).toNat < 33)) && !(decide (126 < ((str s)[j]'hsz).toNat)) && !(((str s)[j]'hsz) == 47))) := rfl
      have t47 : ((((str s)[j]'hsz).toNat : Int) == 47) = ((str s)[j]'hsz == 47) := by
        rw [Bool.eq_iff_iff, beq_iff_eq, beq_iff_eq]
        exact ⟨fun h => UInt8.toNat_inj.1 (by have h47 : (47 : UInt8).toNat = 47 := rfl; omega), fun h => by rw [h]; rfl⟩
      clear hall HN hat
      generalize ((str s)[j]'hsz == 47) = b3 at *
      generalize nameC ((str s)[j]'hsz) = b0 at *
      by_cases c1 : ((str s)[j]'hsz).toNat < 33
      · have d1 : (((str s)[j]'hsz).toNat : Int) < 33 := by omega
        have hR := Lib.hid (hN.out (by rw [hv.out, decide_eq_true c1]; rfl))
        clear hA hN hv
        go_wp2
        go_ret
        exact ⟨by rw [hR.out] <;> rfl, rfl⟩
      · have d1 : ¬ (((str s)[j]'hsz).toNat : Int) < 33 := by omega
        by_cases c2 : 126 < ((str s)[j]'hsz).toNat
        · have d2 : (126 : Int) < (((str s)[j]'hsz).toNat : Int) := by omega
          have hR := Lib.hid (hN.out (by rw [hv.out, decide_eq_true c2]; simp))
          clear hA hN hv
          go_wp2
          go_ret
          exact ⟨by rw [hR.out] <;> rfl, rfl⟩
        · have d2 : ¬ (126 : Int) < (((str s)[j]'hsz).toNat : Int) := by omega
          cases b3
          · have hA2 := Lib.hid (hA.out (by rw [hv.out, decide_eq_false c1, decide_eq_false c2]; rfl))
            clear hA hN hv
            go_wp2
            first
              | exact ⟨⟨j + 1, by omega, (by first | rfl | go_num | (congr 1; omega)), hA2, (by first | exact Lib.hid rfl | exact Lib.hid trivial)⟩, by simp [intOf] <;> omega⟩
              | (refine ⟨?_, by simp [intOf] <;> omega⟩; (repeat apply Exists.intro); exact ⟨⟨j + 1, by omega, (by first | rfl | go_num | (congr 1; omega)), hA2, (by first | exact Lib.hid rfl | exact Lib.hid trivial)⟩, rfl⟩)
          · have hR := Lib.hid (hN.out (by rw [hv.out]; simp))
            clear hA hN hv
            go_wp2
            go_ret
            exact ⟨by rw [hR.out] <;> rfl, rfl⟩
    · have j1 : ¬ (j : Int) < (s.length : Int) := by omega
      have hR : Hid (nameB s = (decide (1 ≤ s.length) && decide (s.length ≤ 32))) := by
        show _ = _
        have h := hall.out
        rw [show j = s.length by omega, List.take_length] at h
        rw [HN.out, h, Bool.and_true]
      clear hall HN
      by_cases e1 : 1 ≤ s.length
      · have f1 : (1 : Int) ≤ (s.length : Int) := by omega
        by_cases e2 : s.length ≤ 32
        · have f2 : (s.length : Int) ≤ 32 := by omega
          have hR2 : Hid (nameB s = true) := by show _ = _; rw [hR.out, decide_eq_true e1, decide_eq_true e2]; rfl
          clear hR
          go_wp2
          go_ret
          exact ⟨by rw [hR2.out] <;> rfl, rfl⟩
        · have f2 : ¬ (s.length : Int) ≤ 32 := by omega
          have hR2 : Hid (nameB s = false) := by show _ = _; rw [hR.out, decide_eq_true e1, decide_eq_false e2]; rfl
          clear hR
          go_wp2
          go_ret
          exact ⟨by rw [hR2.out] <;> rfl, rfl⟩
      · have f1 : ¬ (1 : Int) ≤ (s.length : Int) := by omega
        have hR2 : Hid (nameB s = false) := by show _ = _; rw [hR.out, decide_eq_false e1]; rfl
        clear hR
        go_wp2
        go_ret
        exact ⟨by rw [hR2.out] <;> rfl, rfl⟩
theorem timely_any (t : Int) (w : World) : Calls Try.prog 48 #[.int .i64 t] w fun e w' => e = .returned (.bool (timelyB t)) ∧ w = w' := by
  have hR : Hid (timelyB t = (decide (-1099511627776 ≤ t) && decide (t ≤ 1099511627776))) := rfl
  by_cases h1 : -1099511627776 ≤ t
  · by_cases h2 : t ≤ 1099511627776
    · have hR2 : Hid (timelyB t = true) := by show _ = _; rw [hR.out, decide_eq_true h1, decide_eq_true h2]; rfl
      go_enter Try.func48, Try.ntmps48
      go_wp2
      go_ret
      exact ⟨by rw [hR2.out] <;> rfl, rfl⟩
    · have hR2 : Hid (timelyB t = false) := by show _ = _; rw [hR.out, decide_eq_true h1, decide_eq_false h2]; rfl
      go_enter Try.func48, Try.ntmps48
      go_wp2
      go_ret
      exact ⟨by rw [hR2.out] <;> rfl, rfl⟩
  · have hR2 : Hid (timelyB t = false) := by show _ = _; rw [hR.out, decide_eq_false h1]; rfl
    go_enter Try.func48, Try.ntmps48
    go_wp2
    go_ret
    exact ⟨by rw [hR2.out] <;> rfl, rfl⟩
theorem rtimely_any (t : Int) (w : World) : Calls Try.prog 55 #[.int .i64 t] w fun e w' => e = .returned (.bool (timelyB t)) ∧ w = w' := by
  have hR : Hid (timelyB t = (decide (-1099511627776 ≤ t) && decide (t ≤ 1099511627776))) := rfl
  by_cases h1 : -1099511627776 ≤ t
  · by_cases h2 : t ≤ 1099511627776
    · have hR2 : Hid (timelyB t = true) := by show _ = _; rw [hR.out, decide_eq_true h1, decide_eq_true h2]; rfl
      go_enter Try.func55, Try.ntmps55
      go_wp2
      go_ret
      exact ⟨by rw [hR2.out] <;> rfl, rfl⟩
    · have hR2 : Hid (timelyB t = false) := by show _ = _; rw [hR.out, decide_eq_true h1, decide_eq_false h2]; rfl
      go_enter Try.func55, Try.ntmps55
      go_wp2
      go_ret
      exact ⟨by rw [hR2.out] <;> rfl, rfl⟩
  · have hR2 : Hid (timelyB t = false) := by show _ = _; rw [hR.out, decide_eq_false h1]; rfl
    go_enter Try.func55, Try.ntmps55
    go_wp2
    go_ret
    exact ⟨by rw [hR2.out] <;> rfl, rfl⟩
end Go.Proofs.Ytakliplkabgmbaa
