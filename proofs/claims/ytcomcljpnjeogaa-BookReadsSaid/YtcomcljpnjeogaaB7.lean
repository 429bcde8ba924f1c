/- Walks of layer 13: Index, Counts, Uses; and the document's numbers, heads and ends. -/
import Derived.Test.YtcomcljpnjeogaaB6
import Derived.IntWalk
set_option maxRecDepth 20000
namespace Go.Proofs.Ytcomcljpnjeogaa
open Go.RowKit Go.Hd

theorem idx_any {a : Option Addr} {n c : Nat} {l : List BRow} {w : World} (hn : n = l.length) (hl : EntRd 35 w a l) (hf : ∀ r ∈ l, fitR kI r) (hm : l.length ≤ 65536) :
    Calls Try.prog 9 #[.slice a n c] w fun e w' => ∃ v, e = .returned (.tuple #[v, .int .i64 (writeF kI l).2]) ∧ BRd w' v (writeF kI l).1 ∧ Below w.heap.size w w' := by
  subst hn
  go_enter Try.func9, Try.ntmps9
  go_wp2_with fail
  refine (index_any w).mono ?_
  rintro e w1 ⟨rfl, hb1⟩
  go_wp2_with fail
  refine (plain_KD rfl ⟨hl.1.below hb1, hl.2⟩ hf hm).mono ?_
  rintro e w2 ⟨v, rfl, hv, hb2⟩
  obtain ⟨a2, c2, rfl, _, _, hrd⟩ := hv.rd
  go_wp2_with fail
  refine (kwrite_any kI kI_good rfl hrd hf hm).mono ?_
  rintro e w3 ⟨v3, rfl, hv3, hb3⟩
  go_wp2
  go_ret2
  exact ⟨_, rfl, hv3, Gr.trans (Gr.trans hb1 hb2) hb3⟩
theorem cnt_any {a : Option Addr} {n c : Nat} {l : List BRow} {w : World} (hn : n = l.length) (hl : EntRd 34 w a l) (hf : ∀ r ∈ l, fitR kC r) (hm : l.length ≤ 65536) :
    Calls Try.prog 10 #[.slice a n c] w fun e w' => ∃ v, e = .returned (.tuple #[v, .int .i64 (writeF kC l).2]) ∧ BRd w' v (writeF kC l).1 ∧ Below w.heap.size w w' := by
  subst hn
  go_enter Try.func10, Try.ntmps10
  go_wp2_with fail
  refine (counts_any w).mono ?_
  rintro e w1 ⟨rfl, hb1⟩
  go_wp2_with fail
  refine (plain_CD rfl ⟨hl.1.below hb1, hl.2⟩ hf hm).mono ?_
  rintro e w2 ⟨v, rfl, hv, hb2⟩
  obtain ⟨a2, c2, rfl, _, _, hrd⟩ := hv.rd
  go_wp2_with fail
  refine (kwrite_any kC kC_good rfl hrd hf hm).mono ?_
  rintro e w3 ⟨v3, rfl, hv3, hb3⟩
  go_wp2
  go_ret2
  exact ⟨_, rfl, hv3, Gr.trans (Gr.trans hb1 hb2) hb3⟩
theorem use_any {a : Option Addr} {n c : Nat} {l : List BRow} {w : World} (hn : n = l.length) (hl : EntRd 3 w a l) (hf : ∀ r ∈ l, fitR kU r) (hm : l.length ≤ 65536) :
    Calls Try.prog 11 #[.slice a n c] w fun e w' => ∃ v, e = .returned (.tuple #[v, .int .i64 (writeF kU l).2]) ∧ BRd w' v (writeF kU l).1 ∧ Below w.heap.size w w' := by
  subst hn
  go_enter Try.func11, Try.ntmps11
  go_wp2_with fail
  refine (uses_any w).mono ?_
  rintro e w1 ⟨rfl, hb1⟩
  go_wp2_with fail
  refine (plain_US rfl ⟨hl.1.below hb1, hl.2⟩ hf hm).mono ?_
  rintro e w2 ⟨v, rfl, hv, hb2⟩
  obtain ⟨a2, c2, rfl, _, _, hrd⟩ := hv.rd
  go_wp2_with fail
  refine (kwrite_any kU kU_good rfl hrd hf hm).mono ?_
  rintro e w3 ⟨v3, rfl, hv3, hb3⟩
  go_wp2
  go_ret2
  exact ⟨_, rfl, hv3, Gr.trans (Gr.trans hb1 hb2) hb3⟩

/-! The document's. -/
theorem number_any {base : Nat} {v : Value} {l : List UInt8} {w : World} (N : Int) (hv : Own 5 w base v l) (hb : base ≤ w.heap.size) (hl : l.length ≤ 4000000) (hN : -9223372036854775808 ≤ N) (hN2 : N ≤ 9223372036854775807) :
    Calls Try.prog 43 #[v, .int .i64 N] w fun e w' => ∃ v', e = .returned (.tuple #[v', .bool (okN N)]) ∧ Own 5 w' base v' (l ++ numB N) ∧ Below base w w' := by
  obtain ⟨M, hM⟩ : ∃ M : Nat, (M : Int) = N % 18446744073709551616 := ⟨(N % 18446744073709551616).toNat, by omega⟩
  have eM : IntKind.u64.wrap N = (M : Int) := by rw [IntKind.wrap_u64]; exact hM.symm
  have HB : Hid (numB N = putL M 4) := by
    show _ = _
    rw [numB, ← hM]
    rfl
  have hM2 : M < 18446744073709551616 := by omega
  clear hM
  by_cases h0 : 0 ≤ N
  · by_cases h1 : N ≤ 4294967295
    · have HO : Hid (okN N = true) := by show _ = _; simp [okN, h0, h1]
      go_enter Try.func43, Try.ntmps43
      go_wp2_with fail
      refine (rput_any M 4 _ hM2 (by decide) (by decide)).mono ?_
      rintro e w1 ⟨pv, rfl, hF⟩
      obtain ⟨a1, c1, rfl, hr1, hb1, _, _⟩ := hF.open
      have hsz := hb1.size
      obtain ⟨v2, w2, hrun, hv2, _, _, hb2⟩ := (hv.below hb1).append (ty := 27) (c := c1) eB hr1 rfl (by rw [putL_length]; omega) (by omega)
      go_wp2_with (at_builtin; refine wpList_append_run hrun rfl rfl rfl rfl ?_)
      go_ret2
      rw [HO.out, HB.out]
      exact ⟨_, rfl, hv2, (hb1.mono hb).trans hb2⟩
    · have HO : Hid (okN N = decide (N ≤ 4294967295)) := by show _ = _; simp [okN, h0]
      go_enter Try.func43, Try.ntmps43
      go_wp2_with fail
      refine (rput_any M 4 _ hM2 (by decide) (by decide)).mono ?_
      rintro e w1 ⟨pv, rfl, hF⟩
      obtain ⟨a1, c1, rfl, hr1, hb1, _, _⟩ := hF.open
      have hsz := hb1.size
      obtain ⟨v2, w2, hrun, hv2, _, _, hb2⟩ := (hv.below hb1).append (ty := 27) (c := c1) eB hr1 rfl (by rw [putL_length]; omega) (by omega)
      go_wp2_with (at_builtin; refine wpList_append_run hrun rfl rfl rfl rfl ?_)
      go_ret2
      rw [HO.out, HB.out]
      exact ⟨_, rfl, hv2, (hb1.mono hb).trans hb2⟩
  · have HO : Hid (okN N = false) := by show _ = _; simp [okN, h0]
    go_enter Try.func43, Try.ntmps43
    go_wp2_with fail
    refine (rput_any M 4 _ hM2 (by decide) (by decide)).mono ?_
    rintro e w1 ⟨pv, rfl, hF⟩
    obtain ⟨a1, c1, rfl, hr1, hb1, _, _⟩ := hF.open
    have hsz := hb1.size
    obtain ⟨v2, w2, hrun, hv2, _, _, hb2⟩ := (hv.below hb1).append (ty := 27) (c := c1) eB hr1 rfl (by rw [putL_length]; omega) (by omega)
    go_wp2_with (at_builtin; refine wpList_append_run hrun rfl rfl rfl rfl ?_)
    go_ret2
    rw [HO.out, HB.out]
    exact ⟨_, rfl, hv2, (hb1.mono hb).trans hb2⟩
def i64Ok (N : Int) : Prop := -9223372036854775808 ≤ N ∧ N ≤ 9223372036854775807
theorem three_any {base : Nat} {v : Value} {l : List UInt8} {w : World} (x y z : Int) (hv : Own 5 w base v l) (hb : base ≤ w.heap.size) (hl : l.length ≤ 3999000) (hx : i64Ok x) (hy : i64Ok y) (hz : i64Ok z) :
    Calls Try.prog 40 #[v, .int .i64 x, .int .i64 y, .int .i64 z] w fun e w' => ∃ v', e = .returned (.tuple #[v', .bool (okR ([], [x, y, z]))]) ∧ Own 5 w' base v' (l ++ numsB [x, y, z]) ∧ Below base w w' := by
  have HL : Hid (l ++ numsB [x, y, z] = l ++ numB x ++ numB y ++ numB z) := by show _ = _; simp [numsB]
  have HO : Hid (okR ([], [x, y, z]) = (okN x && (okN y && okN z))) := by show _ = _; simp [okR]
  have l1 := numB_length x
  have l2 := numB_length y
  go_enter Try.func40, Try.ntmps40
  go_wp2_with fail
  refine (number_any x hv hb (by omega) hx.1 hx.2).mono ?_
  rintro e w1 ⟨v1, rfl, hv1, hb1⟩
  have z1 := hb1.size
  go_wp2_with fail
  refine (number_any y hv1 (by omega) (by rw [List.length_append]; omega) hy.1 hy.2).mono ?_
  rintro e w2 ⟨v2, rfl, hv2, hb2⟩
  have z2 := hb2.size
  go_wp2_with fail
  refine (number_any z hv2 (by omega) (by rw [List.length_append, List.length_append]; omega) hz.1 hz.2).mono ?_
  rintro e w3 ⟨v3, rfl, hv3, hb3⟩
  rw [← HL.out] at hv3
  have hb := (hb1.trans hb2).trans hb3
  generalize okN x = X at *
  generalize okN y = Y at *
  generalize okN z = Z at *
  cases X <;> cases Y <;> cases Z
  all_goals
    go_wp2
    go_ret2
    rw [HO.out]
    exact ⟨_, rfl, hv3, hb⟩
theorem closed_any {base : Nat} {v : Value} {l : List UInt8} {w : World} (hv : Own 5 w base v l) (hb : base ≤ w.heap.size) (hl : l.length ≤ 4000000) :
    Calls Try.prog 42 #[v] w fun e w' => ∃ v', e = .returned v' ∧ Own 5 w' base v' (closedF l) ∧ Below base w w' := by
  have hs := sum_lt l 0
  rw [show (256 ^ 8 : Nat) = 18446744073709551616 by decide] at hs
  obtain ⟨av, cv, rfl, hcv, hmv, hrv, _⟩ := hv.at
  go_enter Try.func42, Try.ntmps42
  go_wp2_with fail
  refine (rsum_any 0 (by rfl) rfl hrv hcv (by omega)).mono ?_
  rintro e w1 ⟨rfl, hb1⟩
  have z1 := hb1.size
  go_wp2_with fail
  refine (rput_any (sumF l 0).toNat 8 _ hs (by decide) (by decide)).mono ?_
  rintro e w2 ⟨pv, rfl, hF⟩
  obtain ⟨a1, c1, rfl, hr1, hb2, _, _⟩ := hF.open
  have z2 := hb2.size
  obtain ⟨v2, w3, hrun, hv2, _, _, hb3⟩ := ((hv.below hb1).below hb2).append (ty := 27) (c := c1) eB hr1 rfl (by rw [putL_length]; omega) (by omega)
  clear hs
  go_wp2_with (at_builtin; refine wpList_append_run hrun rfl rfl rfl rfl ?_)
  go_ret
  exact ⟨_, rfl, hv2, ((hb1.mono hb).trans (hb2.mono (by omega))).trans hb3⟩
theorem begun_any {n : Nat} (m : List UInt8) (w : World) (h8 : m.length = 8) (hn : n ≤ 65536) :
    Calls Try.prog 39 #[.string (str m), .int .i64 n] w fun e w' => ∃ v, e = .returned v ∧ Own 5 w' w.heap.size v (m ++ putL n 4) ∧ Below w.heap.size w w' := by
  have en : IntKind.u64.wrap (n : Int) = (n : Int) := by rw [IntKind.wrap_u64]; omega
  have hst : (str m).size = 8 := by simp [h8]
  go_enter Try.func39, Try.ntmps39
  go_wp2
  go_loopw [5, 6] (fun v i wr => ∃ k : Nat, k ≤ 8 ∧ i = .int .i64 k ∧ Own 5 wr w.heap.size v (m.take k) ∧ Below w.heap.size w wr) (fun _ i _ => 8 - (intOf i).toNat)
  case atStart => exact ⟨0, by omega, rfl, Own.nil _ _ _, Below.refl _ _⟩
  case round =>
    obtain ⟨k, hk, rfl, hv, hb⟩ := hrel
    by_cases hlt : k < 8
    · have hk2 : k < m.length := by omega
      have hks : k < (str m).size := by omega
      have ge : ((str m)[k]'hks) = m[k] := rfl
      have HG := Lib.hid ge
      clear ge
      have hsz := hb.size
      have hl : (m.take k).length = k := by simp; omega
      obtain ⟨v', w1, hrun, hv1, _, _, hb1⟩ := hv.append1 (ty := 27) eB m[k] (by omega) hsz
      have HV : Hid (Own 5 w1 w.heap.size v' (m.take (k + 1))) := by
        show Own _ _ _ _ _
        rw [List.take_succ_eq_append_getElem hk2]; exact hv1
      rw [← HG.out] at hrun
      clear hv hv1 hl h8
      go_wp2_with (at_builtin; refine wpList_append_run hrun rfl rfl rfl rfl ?_)
      first
        | exact ⟨⟨k + 1, by omega, (by first | rfl | go_num | (congr 1; omega)), HV.out, hb.trans hb1⟩, by simp [intOf] <;> omega⟩
        | (refine ⟨?_, by simp [intOf] <;> omega⟩; (repeat apply Exists.intro); exact ⟨⟨k + 1, by omega, (by first | rfl | go_num | (congr 1; omega)), HV.out, hb.trans hb1⟩, rfl⟩)
    · obtain rfl : k = 8 := by omega
      rw [List.take_of_length_le (by omega)] at hv
      have hsz := hb.size
      go_wp2_with fail
      refine (rput_any n 4 _ (by omega) (by decide) (by decide)).mono ?_
      rintro e w1 ⟨pv, rfl, hF⟩
      obtain ⟨a1, c1, rfl, hr1, hb1, _, _⟩ := hF.open
      have z2 := hb1.size
      obtain ⟨v2, w3, hrun, hv2, _, _, hb3⟩ := (hv.below hb1).append (ty := 27) (c := c1) eB hr1 rfl (by rw [putL_length, h8]; omega) (by omega)
      clear h8
      go_wp2_with (at_builtin; refine wpList_append_run hrun rfl rfl rfl rfl ?_)
      go_ret
      exact ⟨_, rfl, hv2, (hb.trans (hb1.mono hsz)).trans hb3⟩
end Go.Proofs.Ytcomcljpnjeogaa
