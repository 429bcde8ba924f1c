/- Walks of layer 9: put, Wrap, the document's Wrap. -/
import Derived.Test.YtpkgcnklpnficaaZ5
import Derived.Test.YtpkgcnklpnficaaPl9
import Derived.Test.YtpkgcnklpnficaaArg
import Derived.Lib.SlBytesConst
namespace Go.Proofs.Ytpkgcnklpnficaa
open Go.ChangeShapes Go.WideShapes Go.ChangeAt Go.RowKit Go.Hd

theorem squeeze_abc9 : squeezeF [97, 98, 99] = [48, 97, 98, 99] := by
  unfold squeezeF
  rw [sq_end (by simp)]
  rfl
theorem wput_any {k : UInt8} {n q c : Nat} {l : List UInt8} {a : Option Addr} {w : World} (hq : q = l.length) (hr : Row w a (l.map b8)) (hl : l.length ≤ 1000000) (hn : n ≤ 1000000) :
    Calls Try.prog 20 #[.int .u8 (k.toNat : Int), .int .i64 n, .slice a q c] w fun e w' => ∃ v, e = .returned v ∧ Fresh w w' v (wrapB k n l) := by
  subst hq
  obtain ⟨i0, hi, hz0, hz1, hz2⟩ := info_parts eB.hi
  have hmk := run_make (P := Try.prog) w 22 5 i0 (.int .u8 0) eB.ht hi hz0 .i64 .i64 0 ((5 : Int) + l.length) (by omega) (by omega) (by rw [hz2]; omega) (by omega)
  rw [hz1] at hmk
  simp only [Nat.mul_one] at hmk
  have htc : ((5 : Int) + l.length).toNat = 5 + l.length := by omega
  rw [htc] at hmk
  have own0 : Own 5 (w.alloc (.cells (madeCells #[.int .u8 0] (5 + l.length)) 5)) w.heap.size (.slice (some ⟨w.heap.size, 0, none⟩) 0 (5 + l.length)) [] :=
    (Blk.new w 5 (madeCells #[.int .u8 0] (5 + l.length))).owns (Nat.le_refl _) (Nat.zero_le _) (by simp [madeCells]) (by unfold maxLen; omega)
  have hb0 : Below w.heap.size w (w.alloc (.cells (madeCells #[.int .u8 0] (5 + l.length)) 5)) := (Below.refl _ _).alloc (Nat.le_refl _) _
  obtain ⟨v1, w1, hrun1, o1, _, _, hb1⟩ := Own.append1 (ty := 22) own0 eB k (by simp) hb0.size
  rw [show (w.alloc (.cells (madeCells #[.int .u8 0] (5 + l.length)) 5)).heap.size = w.heap.size + 1 by simp] at hrun1
  have hb1 := hb0.trans hb1
  clear hi hz0 hz1 hz2 own0 hb0 htc
  go_enter Try.func20, Try.ntmps20
  go_wp2_with (at_builtin; refine wpList_append_run hrun1 rfl rfl rfl rfl ?_)
  refine (put_any n 4 _ (by omega) (by omega) (by omega)).mono ?_
  rintro e w2 ⟨v2, rfl, hF2⟩
  obtain ⟨a2, c2, rfl, hr2, hb2, _, _⟩ := hF2.open
  have o2 := Own.below o1 hb2
  have hb2 := Gr.trans hb1 hb2
  obtain ⟨v3, w3, hrun3, o3, _, _, hb3⟩ := Own.append (ty := 22) (c := c2) o2 eB hr2 rfl (by simp) hb2.size
  have hb3 := hb2.trans hb3
  obtain ⟨v4, w4, hrun4, o4, _, _, hb4⟩ := Own.append (ty := 22) (c := c) o3 eB (hr.below hb3) rfl (by simp; omega) hb3.size
  have hb4 := hb3.trans hb4
  have hfin : Fresh w w4 v4 (wrapB k n l) := by
    refine ⟨?_, hb4⟩
    have : wrapB k n l = [] ++ [k] ++ putL n 4 ++ l := by simp [wrapB]
    rw [this]; exact o4
  have FIN := Lib.hid hfin
  clear hfin o4 o3 o2 o1 hb4 hb3 hb2 hb1 hF2 hr2
  go_wp2_with (first | (at_builtin; refine wpList_append_run hrun3 rfl rfl rfl rfl ?_) | (at_builtin; refine wpList_append_run hrun4 rfl rfl rfl rfl ?_))
  go_ret
  exact ⟨v4, rfl, FIN.out⟩
theorem wrap_big {a : Option Addr} {n c : Nat} {st : Bool} {w : World} (hn : 16379 < n) :
    Calls Try.prog 10 #[.slice a n c, .bool st] w fun e w' => e = .returned (.tuple #[.slice none 0 0, .int .i64 5]) ∧ w = w' := by
  have hI : (16379 : Int) < n := by omega
  go_enter Try.func10, Try.ntmps10
  go_wp2
  go_ret2
  exact ⟨rfl, rfl⟩
theorem rwrap_big {a : Option Addr} {n c : Nat} {st : Bool} {w : World} (hn : 16379 < n) :
    Calls Try.prog 11 #[.slice a n c, .bool st] w fun e w' => e = .returned (.tuple #[.slice none 0 0, .int .i64 5]) ∧ w = w' := by
  have hI : (16379 : Int) < n := by omega
  go_enter Try.func11, Try.ntmps11
  go_wp2
  go_ret2
  exact ⟨rfl, rfl⟩
theorem wrap_any {a : Option Addr} {n c : Nat} {l : List UInt8} {st : Bool} {w : World} (hn : n = l.length) (hl : Row w a (l.map b8)) (hc : n ≤ c) (hm : l.length ≤ 16379) :
    Calls Try.prog 10 #[.slice a n c, .bool st] w fun e w' => ∃ v, e = .returned (.tuple #[v, .int .i64 0]) ∧ Fresh w w' v (wrapF l st) := by
  subst hn
  have hI : ¬ (16379 : Int) < l.length := by omega
  cases st with
  | true =>
    have HW := Lib.hid (wrapF_st l)
    go_enter Try.func10, Try.ntmps10
    go_wp2_with fail
    refine (wput_any (k := 0) (n := l.length) (by rfl) hl (by omega) (by omega)).mono ?_
    rintro e w1 ⟨v1, rfl, hF1⟩
    rw [← HW.out] at hF1
    go_wp2
    go_ret2
    exact ⟨v1, rfl, hF1⟩
  | false =>
    have hqq : Hid (wrapF l false = if (squeezeF l).length < l.length then wrapB 1 l.length (squeezeF l) else wrapB 0 l.length l) := by
      show _ = _
      split
      · rename_i h; exact wrapF_yes h
      · rename_i h; exact wrapF_no h
    go_enter Try.func10, Try.ntmps10
    go_wp2_with fail
    refine (squeeze_any (l := l) (by rfl) hl hc (by omega)).mono ?_
    rintro e w1 ⟨v1, rfl, hF1⟩
    obtain ⟨a1, c1, rfl, hr1, hb1, hm1, hc1⟩ := hF1.open
    have hl1 := hl.below hb1
    clear hF1
    generalize squeezeF l = C at *
    by_cases hlt : C.length < l.length
    · have hI2 : (C.length : Int) < l.length := by omega
      go_wp2_with fail
      refine (wput_any (k := 1) (n := l.length) (l := C) (by rfl) hr1 (by omega) (by omega)).mono ?_
      rintro e w2 ⟨v2, rfl, hF2⟩
      have := hqq.out
      rw [if_pos hlt] at this
      rw [← this] at hF2
      go_wp2
      go_ret2
      exact ⟨v2, rfl, Own.mono hF2.1 hb1.size, Gr.trans hb1 hF2.2⟩
    · have hI2 : ¬ (C.length : Int) < l.length := by omega
      go_wp2_with fail
      refine (wput_any (k := 0) (n := l.length) (l := l) (by rfl) hl1 (by omega) (by omega)).mono ?_
      rintro e w2 ⟨v2, rfl, hF2⟩
      have := hqq.out
      rw [if_neg hlt] at this
      rw [← this] at hF2
      go_wp2
      go_ret2
      exact ⟨v2, rfl, Own.mono hF2.1 hb1.size, Gr.trans hb1 hF2.2⟩
set_option maxHeartbeats 1000000 in
theorem rwrap_any {a : Option Addr} {n c : Nat} {l : List UInt8} {st : Bool} {w : World} (hn : n = l.length) (hl : Row w a (l.map b8)) (hc : n ≤ c) (hm : l.length ≤ 16379) :
    Calls Try.prog 11 #[.slice a n c, .bool st] w fun e w' => ∃ v, e = .returned (.tuple #[v, .int .i64 0]) ∧ Fresh w w' v (wrapF l st) := by
  subst hn
  have hI : ¬ (16379 : Int) < l.length := by omega
  have hqq : Hid (wrapF l st = if st = false ∧ (squeezeF l).length < l.length then wrapB 1 l.length (squeezeF l) else wrapB 0 l.length l) := rfl
  go_enter Try.func11, Try.ntmps11
  go_wp2_with fail
  refine (rsqueeze_any (l := l) (by rfl) hl hc (by omega)).mono ?_
  rintro e w1 ⟨v1, rfl, hF1⟩
  obtain ⟨a1, c1, rfl, hr1, hb1, hm1, hc1⟩ := hF1.open
  have hl1 := hl.below hb1
  clear hF1
  generalize squeezeF l = C at *
  -- what is laid behind the kind
  have step : ∀ (k : UInt8) (m : List UInt8) (am : Option Addr) (cm : Nat), Row w1 am (m.map b8) → m.length ≤ 20000 → ∀ w2 v2, Fresh (w1.alloc (.cells #[.int .u8 (k.toNat : Int)] 5)) w2 v2 (putL l.length 4) →
      ∃ v3 w3 v4 w4, (Builtin.append_ #[22, 22] 22 #[.slice (some ⟨w1.heap.size, 0, none⟩) 1 1, v2]).run Try.prog w2 = .ok v3 w3 ∧
        (Builtin.append_ #[22, 22] 22 #[v3, .slice am m.length cm]).run Try.prog w3 = .ok v4 w4 ∧ Fresh w w4 v4 (wrapB k l.length m) := by
    intro k m am cm hrm hml w2 v2 hF2
    have hba : Below w.heap.size w (w1.alloc (.cells #[.int .u8 (k.toNat : Int)] 5)) := hb1.alloc hb1.size _
    have hnew : Own 5 (w1.alloc (.cells #[b8 k] 5)) w.heap.size (.slice (some ⟨w1.heap.size, 0, none⟩) 1 1) [k] := Own.new _ [k] hb1.size (by simp)
    obtain ⟨a2, c2, rfl, hr2, hb2, _, _⟩ := hF2.open
    have o2 := Own.below hnew hb2
    have hb2' := Gr.trans hba hb2
    obtain ⟨v3, w3, hrun3, o3, gr3, _, hb3⟩ := Own.append (ty := 22) (c := c2) o2 eB hr2 rfl (by simp) hb2'.size
    have hb3 := hb2'.trans hb3
    have hrm2 : Row w2 am (m.map b8) := (hrm.below ((Below.refl _ _).alloc (Nat.le_refl _) _)).below hb2
    have gr3' : w2.grownBy w3 (some w1.heap.size) := gr3
    have hrm3 : Row w3 am (m.map b8) := hrm2.keptFar gr3' (fun h0 e => by have := hrm.block_lt h0; simp at e; omega)
    obtain ⟨v4, w4, hrun4, o4, _, _, hb4⟩ := Own.append (ty := 22) (c := cm) o3 eB hrm3 rfl (by simp; omega) hb3.size
    refine ⟨v3, w3, v4, w4, hrun3, hrun4, ?_, hb3.trans hb4⟩
    have : wrapB k l.length m = [k] ++ putL l.length 4 ++ m := by simp [wrapB]
    rw [this]; exact o4
  have HS := Lib.hid step
  clear step
  cases st with
  | true =>
    go_wp2_with fail
    refine (rput_any l.length 4 _ (by omega) (by omega) (by omega)).mono ?_
    rintro e w2 ⟨v2, rfl, hF2⟩
    obtain ⟨v3, w3, v4, w4, hrun3, hrun4, hfin⟩ := HS.out 0 l a c hl1 (by omega) w2 v2 hF2
    have := hqq.out
    rw [if_neg (fun e => by cases e.1)] at this
    rw [← this] at hfin
    have FIN := Lib.hid hfin
    clear hfin hF2
    go_wp2_with (first | (at_builtin; refine wpList_append_run hrun3 rfl rfl rfl rfl ?_) | (at_builtin; refine wpList_append_run hrun4 rfl rfl rfl rfl ?_))
    go_ret2
    exact ⟨v4, rfl, FIN.out⟩
  | false =>
    by_cases hlt : C.length < l.length
    · have hI2 : (C.length : Int) < l.length := by omega
      go_wp2_with fail
      refine (rput_any l.length 4 _ (by omega) (by omega) (by omega)).mono ?_
      rintro e w2 ⟨v2, rfl, hF2⟩
      obtain ⟨v3, w3, v4, w4, hrun3, hrun4, hfin⟩ := HS.out 1 C a1 c1 hr1 (by omega) w2 v2 hF2
      have := hqq.out
      rw [if_pos (by simpa using hlt)] at this
      rw [← this] at hfin
      have FIN := Lib.hid hfin
      clear hfin hF2
      go_wp2_with (first | (at_builtin; refine wpList_append_run hrun3 rfl rfl rfl rfl ?_) | (at_builtin; refine wpList_append_run hrun4 rfl rfl rfl rfl ?_))
      go_ret2
      exact ⟨v4, rfl, FIN.out⟩
    · have hI2 : ¬ (C.length : Int) < l.length := by omega
      go_wp2_with fail
      refine (rput_any l.length 4 _ (by omega) (by omega) (by omega)).mono ?_
      rintro e w2 ⟨v2, rfl, hF2⟩
      obtain ⟨v3, w3, v4, w4, hrun3, hrun4, hfin⟩ := HS.out 0 l a c hl1 (by omega) w2 v2 hF2
      have := hqq.out
      rw [if_neg (by simpa using hlt)] at this
      rw [← this] at hfin
      have FIN := Lib.hid hfin
      clear hfin hF2
      go_wp2_with (first | (at_builtin; refine wpList_append_run hrun3 rfl rfl rfl rfl ?_) | (at_builtin; refine wpList_append_run hrun4 rfl rfl rfl rfl ?_))
      go_ret2
      exact ⟨v4, rfl, FIN.out⟩
theorem wrap_abc : wrapF [97, 98, 99] false = [0, 3, 0, 0, 0, 97, 98, 99] := by
  rw [wrapF_no (by rw [squeeze_abc9]; decide)]
  rfl
theorem lives9_any (w : World) : Calls Try.prog 13 #[] w fun e w' => e = .returned (.bool true) ∧ Below w.heap.size w w' := by
  have kc := fun (w : World) (C : Array Value) (n c : Nat) => Lib.run_convert_bytes_const (P := Try.prog) w 22 5 C n c Try.underlying22 Try.underlying5
  go_enter Try.func13, Try.ntmps13
  go_wp2_with fail
  refine (wrap_any (l := [97, 98, 99]) (by rfl) (row_alloc _ _ _ _) (by decide) (by decide)).mono ?_
  rintro e w1 ⟨v, rfl, hF⟩
  rw [wrap_abc] at hF
  obtain ⟨ho, hb⟩ := hF
  have hb0 : Below w.heap.size w w1 := ((Below.refl _ _).alloc (Nat.le_refl _) _).trans (hb.mono (by simp))
  rcases owns_bytes ho with ⟨_, h0⟩ | ⟨g, c, rest, rfl, hg, hB, _, _, _⟩
  · cases h0
  have c0 : w1.cell? ⟨g, 1, none⟩ = some (.int .u8 3) := hB.byteL (l := [0, 3, 0, 0, 0, 97, 98, 99]) (i := 1) (by decide)
  clear ho hb hB
  go_wp2
  go_ret
  exact ⟨rfl, hb0⟩
end Go.Proofs.Ytpkgcnklpnficaa
